/- Ints, TextOK. -/
import Derived.Test.Qxb6500450aGreatApi
namespace Go.Proofs.Qxb6500450aGreat
open Go Go.RowKit
set_option maxRecDepth 100000
set_option maxHeartbeats 800000
set_option linter.unusedSimpArgs false
set_option linter.unusedVariables false

def ints : List Int → List UInt8
  | [] => []
  | n :: l => itoa n ++ [32] ++ ints l

theorem ints_snoc : ∀ (l : List Int) (n : Int), ints (l ++ [n]) = ints l ++ itoa n ++ [32]
  | [], n => by simp [ints]
  | m :: l, n => by simp [ints, ints_snoc l n]

theorem ints_len : ∀ l : List Int, (ints l).length ≤ 22 * l.length
  | [] => by simp [ints]
  | n :: l => by
    have := itoa_len n
    have := ints_len l
    simp [ints]; omega

/-- An int fits. -/
def I64 (n : Int) : Prop := -9223372036854775808 ≤ n ∧ n ≤ 9223372036854775807

/-- A slice of ints that can be read. -/
def IntsAt (w : World) (a : Option Addr) (l : List Int) : Prop :=
  (∀ n ∈ l, I64 n) ∧ (l = [] ∨ ∃ b off, a = some ⟨b, off, none⟩ ∧ b < w.heap.size ∧ ∀ i, i < l.length → w.cell? ⟨b, off + i, none⟩ = some (.int .i64 (l.getD i 0)))

theorem IntsAt.fr {w w' : World} {a : Option Addr} {l : List Int} (h : IntsAt w a l) {S : Nat → Prop} (hf : Fr S w w') (hn : ∀ b off, a = some ⟨b, off, none⟩ → ¬ S b) : IntsAt w' a l := by
  obtain ⟨h1, h | ⟨b, off, rfl, hb, hc⟩⟩ := h
  · exact ⟨h1, .inl h⟩
  · exact ⟨h1, .inr ⟨b, off, rfl, Nat.lt_of_lt_of_le hb hf.size, fun i hi => by rw [hf.cell (p := ⟨b, off + i, none⟩) hb (hn b off rfl)]; exact hc i hi⟩⟩

theorem ints_any {w : World} {a : Option Addr} {l : List Int} (cap : Nat) (h : IntsAt w a l) (hl : l.length ≤ 1000000) :
    Calls Tryz.prog 54 #[.slice a l.length cap] w fun e w' => e = .returned (.string (bs (ints l))) ∧ Fr (fun _ => False) w w' := by
  have H := hid h
  obtain ⟨n, hn⟩ : ∃ n, n = l.length := ⟨_, rfl⟩
  have HN := hid hn
  rw [← hn] at hl ⊢
  clear h hn
  go_enter Tryz.func54, Tryz.ntmps54
  go_wp2_with fail
  go_loopw [3, 4] (fun t i wr => ∃ k : Nat, k ≤ n ∧ i = .int .i64 k ∧ t = .string (bs (ints (l.take k))) ∧ Fr (fun _ => False) w wr) (fun _ i _ => n - (intOf i).toNat)
  case atStart => exact ⟨0, by omega, rfl, rfl, Fr.refl _ _⟩
  case round =>
    obtain ⟨k, hk, rfl, rfl, hf⟩ := hrel
    have hk0 : (0 : Int) ≤ (k : Int) := by omega
    have hz : (bs (ints (l.take k))).size ≤ 100000000 := by
      rw [bs_size]
      have h1 := ints_len (l.take k)
      have h2 : (l.take k).length ≤ k := List.length_take_le _ _
      omega
    have HF := hid hf
    clear hf
    by_cases hlt : k < n
    · have hkn : (k : Int) < (n : Int) := by omega
      have hkl : k < l.length := by have := HN.out; omega
      obtain ⟨h1, h | ⟨b, off, rfl, hb, hc⟩⟩ := H.out
      · subst h; simp at hkl
      have hb' := HF.out.cell (p := ⟨b, off + k, none⟩) hb (fun f => f)
      rw [hc k hkl] at hb'
      have hget : l.getD k 0 = l[k] := by simp [List.getD, hkl]
      have hmem := h1 (l[k]) (List.getElem_mem _)
      have HE : Hid (ints (l.take (k + 1)) = ints (l.take k) ++ itoa (l.getD k 0) ++ [32]) := by
        unfold Hid
        rw [List.take_succ_eq_append_getElem hkl, ints_snoc, hget]
      rw [← hget] at hmem
      have hlo := hmem.1
      have hhi := hmem.2
      have hz2 : (bs (itoa (l.getD k 0))).size ≤ 21 := by rw [bs_size]; exact itoa_len _
      generalize l.getD k 0 = x at *
      clear hc h1 hget hmem
      go_wp2_with (go_at_call 82; refine (itoa_any _ _ hlo hhi).mono ?_; rintro e w2 ⟨rfl, hf2⟩)
      exact ⟨⟨k + 1, by omega, by go_num, by rw [HE.out, ← bs_append, ← bs_append]; rfl, HF.out.trans hf2⟩, by simp [intOf]; omega⟩
    · have hkn : ¬ (k : Int) < (n : Int) := by omega
      have e : l.take k = l := List.take_of_length_le (by have := HN.out; omega)
      rw [e] at hz ⊢
      clear e
      go_wp2_with fail
      go_ret
      exact ⟨rfl, HF.out⟩

/-- A byte that a text may hold. -/
def okB (c : Nat) : Bool := c == 32 || (decide (97 ≤ c) && decide (c ≤ 122))
def textOK (s : ByteArray) : Bool := s.data.toList.all fun c => okB c.toNat

theorem take_snoc (s : ByteArray) (k : Nat) (h : k < s.size) : s.data.toList.take (k + 1) = s.data.toList.take k ++ [s[k]] := by
  rw [List.take_succ_eq_append_getElem (by simpa using h)]; rfl

theorem text_any (s : ByteArray) (w : World) (hs : s.size ≤ 1000000) :
    Calls Tryz.prog 101 #[.string s] w fun e w' => e = .returned (.bool (textOK s)) ∧ w' = w := by
  go_enter Tryz.func101, Tryz.ntmps101
  go_wp2_with fail
  go_loop [3] (fun i => ∃ k : Nat, k ≤ s.size ∧ i = .int .i64 k ∧ ((s.data.toList.take k).all fun c => okB c.toNat) = true) (fun i => s.size - (intOf i).toNat)
  case atStart => exact ⟨0, by omega, rfl, rfl⟩
  case round =>
    obtain ⟨k, hk, rfl, hall⟩ := hrel
    have hk0 : (0 : Int) ≤ (k : Int) := by omega
    have HA := hid hall
    clear hall
    by_cases hlt : k < s.size
    · have hkn : (k : Int) < (s.size : Int) := by omega
      have bad : okB s[k].toNat = false → textOK s = false := fun hb => by
        unfold textOK
        rw [List.all_eq_false]
        exact ⟨s[k], by simp [ByteArray.getElem_eq_getElem_data], by simp [hb]⟩
      have good : okB s[k].toNat = true → ((s.data.toList.take (k + 1)).all fun c => okB c.toNat) = true := fun hb => by
        rw [take_snoc s k hlt, List.all_append, HA.out]
        simp [hb]
      have BAD := hid bad
      have GOOD := hid good
      clear bad good
      by_cases h1 : s[k].toNat = 32
      · have b1 : ((s[k].toNat : Int) != 32) = false := by simp; omega
        have HO : Hid (okB s[k].toNat = true) := by simp [Hid, okB, h1]
        clear h1
        go_wp2_with fail
        exact ⟨⟨k + 1, by omega, by go_num, GOOD.out HO.out⟩, by simp [intOf]; omega⟩
      · have b1 : ((s[k].toNat : Int) != 32) = true := by simp; omega
        by_cases h2 : s[k].toNat < 97
        · have b2 : decide ((s[k].toNat : Int) < 97) = true := by simp; omega
          have HO : Hid (okB s[k].toNat = false) := by simp [Hid, okB, h1]; omega
          have HB := hid (BAD.out HO.out)
          clear h1 h2
          go_wp2_with fail
          go_ret
          rw [HB.out]
          exact ⟨rfl, rfl⟩
        · have b2 : decide ((s[k].toNat : Int) < 97) = false := by simp; omega
          by_cases h3 : 122 < s[k].toNat
          · have b3 : decide ((122 : Int) < (s[k].toNat : Int)) = true := by simp; omega
            have HO : Hid (okB s[k].toNat = false) := by simp [Hid, okB, h1]; omega
            have HB := hid (BAD.out HO.out)
            clear h1 h2 h3
            go_wp2_with fail
            go_ret
            rw [HB.out]
            exact ⟨rfl, rfl⟩
          · have b3 : decide ((122 : Int) < (s[k].toNat : Int)) = false := by simp; omega
            have HO : Hid (okB s[k].toNat = true) := by simp [Hid, okB, h1]; omega
            clear h1 h2 h3
            go_wp2_with fail
            exact ⟨⟨k + 1, by omega, by go_num, GOOD.out HO.out⟩, by simp [intOf]; omega⟩
    · have hkn : ¬ (k : Int) < (s.size : Int) := by omega
      have HE : Hid (textOK s = true) := by
        have := HA.out
        rw [List.take_of_length_le (by simp; omega)] at this
        exact this
      go_wp2_with fail
      go_ret
      rw [HE.out]
      exact ⟨rfl, rfl⟩

end Go.Proofs.Qxb6500450aGreat
