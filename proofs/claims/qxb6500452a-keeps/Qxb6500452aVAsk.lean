/- The real ledger: New, Audit, Show. -/
import Derived.Test.Qxb6500452aVItoa
namespace Go.Proofs.Qxb6500452a
open Go Go.RowKit
set_option maxRecDepth 100000
set_option maxHeartbeats 1600000
set_option linter.unusedSimpArgs false
set_option linter.unusedVariables false

def balL (bal : Nat → Int) : Nat → List UInt8
  | 0 => [98, 97, 108, 61]
  | k + 1 => balL bal k ++ Ia.itoa (bal k) ++ [44]
theorem balL_len (bal : Nat → Int) : ∀ k, (balL bal k).length ≤ 4 + 22 * k
  | 0 => by simp [balL]
  | k + 1 => by
    have h1 := balL_len bal k
    have h2 := Ia.itoa_len (bal k)
    simp [balL]; omega
def showD (s : Led) : List UInt8 := balL s.bal 4 ++ [32, 117, 110, 100, 111, 110, 101, 61] ++ Ia.itoa (s.un : Int) ++ [32, 124, 32] ++ L.showL s.lk

theorem Lbs_size (l : List UInt8) : (L.bs l).size = l.length := by simp [L.bs, ByteArray.size]

theorem lshow_any {w : World} {b : LB} {s : Led} (h : LR w b s) :
    Calls Try.prog 48 #[.pointer (some ⟨b.D, 0, none⟩)] w fun e w' => e = .returned (.string (L.bs (showD s))) ∧ Fr (fun _ => False) w w' := by
  have H := hid h
  have d1 := h.lv.d1.c
  have hul := h.ul
  clear h
  go_enter Try.func48, Try.ntmps48
  go_wp2_with fail
  go_loopw [3, 11] (fun t i wr => ∃ k : Nat, k ≤ 4 ∧ i = .int .i64 k ∧ t = .string (L.bs (balL s.bal k)) ∧ Fr (fun _ => False) w wr) (fun _ i _ => 4 - (intOf i).toNat)
  case atStart => exact ⟨0, by omega, rfl, rfl, Fr.refl _ _⟩
  case round =>
    obtain ⟨k, hk, rfl, rfl, fr⟩ := hrel
    have FR := hid fr
    have hk0 : (0 : Int) ≤ (k : Int) := by omega
    have hz : (L.bs (balL s.bal k)).size ≤ 1000 := by rw [Lbs_size]; have := balL_len s.bal k; omega
    by_cases hlt : k < 4
    · have hk4 : (k : Int) < 4 := by omega
      have c := ((H.out.lv.bl k hlt).fr fr (fun h => h)).c
      obtain ⟨b1, b2⟩ := H.out.bl k hlt
      have hz2 : (Ia.bs (Ia.itoa (s.bal k))).size ≤ 21 := by rw [Ia.bs_size]; exact Ia.itoa_len _
      have HE : Hid (L.bs (balL s.bal (k + 1)) = L.bs (balL s.bal k) ++ Ia.bs (Ia.itoa (s.bal k)) ++ ⟨#[44]⟩) := by
        show L.bs (balL s.bal k ++ Ia.itoa (s.bal k) ++ [44]) = _
        rw [← L.bs_append, ← L.bs_append]
        rfl
      generalize s.bal k = v at *
      clear fr
      go_wp2_with (go_at_call 32; refine (Ia.itoa_any _ _ (by omega) (by omega)).mono ?_; rintro e w2 ⟨rfl, hf2⟩)
      exact ⟨⟨k + 1, by omega, by go_num, by rw [HE.out], FR.out.trans hf2⟩, by simp [intOf]; omega⟩
    · have hk4 : ¬ (k : Int) < 4 := by omega
      obtain rfl : k = 4 := by omega
      have d3 := (H.out.lv.d3.fr fr (fun h => h)).c
      clear fr
      go_wp2_with fail
      refine (Ia.itoa_any (s.un : Int) _ (by omega) (by omega)).mono ?_
      rintro e w2 ⟨rfl, f2⟩
      have FR2 := hid (FR.out.trans f2)
      have d0 := (H.out.lv.d0.fr FR2.out (fun h => h)).c
      have hz2 : (Ia.bs (Ia.itoa (s.un : Int))).size ≤ 21 := by rw [Ia.bs_size]; exact Ia.itoa_len _
      clear f2 d3
      go_wp2_with fail
      refine (show_any (H.out.rt.fr FR2.out (fun h => h) (fun h => h) (fun h => h))).mono ?_
      rintro e w3 ⟨rfl, f3⟩
      have hz3 : (L.bs (L.showL s.lk)).size ≤ 100 := by
        rw [Lbs_size]
        have := H.out.rt.ok.len
        simp [L.showL]
        omega
      have HF := hid (FR2.out.trans f3)
      clear f3
      go_wp2_with fail
      go_ret
      refine ⟨?_, HF.out⟩
      unfold showD
      rw [← L.bs_append, ← L.bs_append, ← L.bs_append, ← L.bs_append]
      rfl

def sumTo (bal : Nat → Int) : Nat → Int
  | 0 => 0
  | k + 1 => sumTo bal k + bal k
theorem sumTo_four (bal : Nat → Int) : sumTo bal 4 = sum4 bal := by simp [sumTo, sum4]
theorem audit_any {w : World} {b : LB} {s : Led} (h : LR w b s) :
    Calls Try.prog 91 #[.pointer (some ⟨b.D, 0, none⟩)] w fun e w' => e = .returned (.int .i64 400) ∧ w' = w := by
  have H := hid h
  have d1 := h.lv.d1.c
  have HT := hid h.tot
  clear h
  go_enter Try.func91, Try.ntmps91
  go_wp2_with fail
  go_loop [3, 11] (fun t i => ∃ k : Nat, k ≤ 4 ∧ i = .int .i64 k ∧ t = .int .i64 (sumTo s.bal k) ∧ 0 ≤ sumTo s.bal k ∧ sumTo s.bal k ≤ 250 * k) (fun _ i => 4 - (intOf i).toNat)
  case atStart => exact ⟨0, by omega, rfl, rfl, by simp [sumTo], by simp [sumTo]⟩
  case round =>
    obtain ⟨k, hk, rfl, rfl, s0, s1⟩ := hrel
    have hk0 : (0 : Int) ≤ (k : Int) := by omega
    by_cases hlt : k < 4
    · have hk4 : (k : Int) < 4 := by omega
      have c := (H.out.lv.bl k hlt).c
      obtain ⟨b1, b2⟩ := H.out.bl k hlt
      have HE : Hid (sumTo s.bal (k + 1) = sumTo s.bal k + s.bal k) := rfl
      generalize s.bal k = v at *
      generalize sumTo s.bal k = q at *
      go_wp2_with fail
      exact ⟨⟨k + 1, by omega, by go_num, by rw [HE.out], by rw [HE.out]; omega, by rw [HE.out]; omega⟩, by simp [intOf]; omega⟩
    · have hk4 : ¬ (k : Int) < 4 := by omega
      obtain rfl : k = 4 := by omega
      rw [sumTo_four, HT.out]
      go_wp2_with fail
      go_ret
      exact ⟨rfl, rfl⟩

end Go.Proofs.Qxb6500452a
