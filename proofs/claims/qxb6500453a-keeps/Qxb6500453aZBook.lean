/- Books, Tail. -/
import Derived.Test.Qxb6500453aZOwn
namespace Go.Proofs.Qxb6500453a
open Go Go.RowKit
set_option maxRecDepth 100000
set_option maxHeartbeats 1600000
set_option linter.unusedSimpArgs false
set_option linter.unusedVariables false

def bookL (s : Led) : List UInt8 := balL s.bal 4 ++ [32, 117, 110, 100, 111, 110, 101, 61] ++ Ia.itoa (s.un : Int) ++ [32, 124, 32]
theorem showD_book (s : Led) : L.bs (showD s) = L.bs (bookL s) ++ L.bs (L.showL s.lk) := by rw [L.bs_append]; rfl
theorem bookL_len (s : Led) : (bookL s).length ≤ 200 := by
  have h1 := balL_len s.bal 4
  have h2 := Ia.itoa_len (s.un : Int)
  simp [bookL]; omega

theorem books_any {w : World} {P : Nat} {s : Led} {mine : Nat → Bool} {v : Value} (g : GH w P s.bal s.un mine v) (bl : ∀ k, k < 4 → 0 ≤ s.bal k ∧ s.bal k ≤ 250) (ul : s.un ≤ 99) :
    Calls Try.prog 28 #[.pointer (some ⟨P, 0, none⟩)] w fun e w' => e = .returned (.string (L.bs (bookL s))) ∧ Fr (fun _ => False) w w' := by
  have H := hid g
  have BL := hid bl
  clear g bl
  go_enter Try.func28, Try.ntmps28
  go_wp2_with fail
  go_loopw [3, 4] (fun t i wr => ∃ k : Nat, k ≤ 4 ∧ i = .int .i64 k ∧ t = .string (L.bs (balL s.bal k)) ∧ Fr (fun _ => False) w wr) (fun _ i _ => 4 - (intOf i).toNat)
  case atStart => exact ⟨0, by omega, rfl, rfl, Fr.refl _ _⟩
  case round =>
    obtain ⟨k, hk, rfl, rfl, fr⟩ := hrel
    have FR := hid fr
    have hk0 : (0 : Int) ≤ (k : Int) := by omega
    have hz : (L.bs (balL s.bal k)).size ≤ 1000 := by rw [Lbs_size]; have := balL_len s.bal k; omega
    by_cases hlt : k < 4
    · have hk4 : (k : Int) < 4 := by omega
      have c := ((H.out.gb k hlt).fr fr (fun h => h)).c
      obtain ⟨b1, b2⟩ := BL.out k hlt
      have hz2 : (Ia.bs (Ia.itoa (s.bal k))).size ≤ 21 := by rw [Ia.bs_size]; exact Ia.itoa_len _
      have HE : Hid (L.bs (balL s.bal (k + 1)) = L.bs (balL s.bal k) ++ Ia.bs (Ia.itoa (s.bal k)) ++ ⟨#[44]⟩) := by
        show L.bs (balL s.bal k ++ Ia.itoa (s.bal k) ++ [44]) = _
        rw [← L.bs_append, ← L.bs_append]
        rfl
      generalize s.bal k = v at *
      clear fr
      go_wp2_with (go_at_call 43; refine (Ia.itoa_any _ _ (by omega) (by omega)).mono ?_; rintro e w2 ⟨rfl, hf2⟩)
      exact ⟨⟨k + 1, by omega, by go_num, by rw [HE.out], FR.out.trans hf2⟩, by simp [intOf]; omega⟩
    · have hk4 : ¬ (k : Int) < 4 := by omega
      obtain rfl : k = 4 := by omega
      have d3 := (H.out.gu.fr fr (fun h => h)).c
      clear fr
      go_wp2_with fail
      refine (Ia.itoa_any (s.un : Int) _ (by omega) (by omega)).mono ?_
      rintro e w2 ⟨rfl, f2⟩
      have HF := hid (FR.out.trans f2)
      have hz2 : (Ia.bs (Ia.itoa (s.un : Int))).size ≤ 21 := by rw [Ia.bs_size]; exact Ia.itoa_len _
      clear f2 d3
      go_wp2_with fail
      go_ret
      refine ⟨?_, HF.out⟩
      unfold bookL
      rw [← L.bs_append, ← L.bs_append, ← L.bs_append]
      rfl

theorem tail_any (a t : List UInt8) (ha : a.length ≤ 1000) (ht : t.length ≤ 1000) (w : World) :
    Calls Try.prog 29 #[.string (L.bs (a ++ t)), .string (L.bs t)] w fun e w' => e = .returned (.bool true) ∧ w' = w := by
  have s1 : (L.bs (a ++ t)).size = a.length + t.length := by rw [Lbs_size]; simp
  have s2 : (L.bs t).size = t.length := Lbs_size t
  have hcut : ∀ W, (Instr.slice 9 (.string (L.bs (a ++ t))) (some (.int .i64 (a.length : Int))) none none).run Try.prog W = .ok (.string (L.bs t)) W := by
    intro W
    rw [run_slice_string_l W 9 _ Try.underlying9 .i64 (a.length : Int) (by omega) (by rw [s1]; omega)]
    congr 2
    apply ByteArray.ext
    simp [L.bs]
    rw [List.take_of_length_le]
    have := s1
    unfold L.bs at this
    omega
  have h1 : ((L.bs (a ++ t)).size : Int) = (a.length : Int) + (t.length : Int) := by rw [s1]; omega
  have h2 : ((L.bs t).size : Int) = (t.length : Int) := by rw [s2]
  have h3 : ((a.length : Int) + (t.length : Int)) - (t.length : Int) = (a.length : Int) := by omega
  have h4 : (t.length : Int) ≤ (a.length : Int) + (t.length : Int) := by omega
  have ha' : (a.length : Int) ≤ 1000 := by omega
  have ht' : (t.length : Int) ≤ 1000 := by omega
  clear s1 s2
  generalize L.bs (a ++ t) = sa at *
  generalize L.bs t = st at *
  generalize a.length = la at *
  generalize t.length = lt at *
  go_enter Try.func29, Try.ntmps29
  go_wp2_with fail
  go_ret
  exact ⟨rfl, rfl⟩

end Go.Proofs.Qxb6500453a
