/- The law's own reading of a text: Holds. -/
import Derived.Test.Qxb6500449aIText
namespace Go.Proofs.Qxb6500449a
open Go Go.RowKit
set_option maxRecDepth 100000
set_option maxHeartbeats 1600000
set_option linter.unusedSimpArgs false
set_option linter.unusedVariables false

/-- x stands in t from a on, between blanks or ends. -/
structure WordAt (t x : ByteArray) (a : Nat) : Prop where
  pos : 0 < x.size
  le : a + x.size ≤ t.size
  ex : t.extract a (a + x.size) = x
  nb : ∀ j, a ≤ j → j < a + x.size → nbk t j = true
  lo : a = 0 ∨ nbk t (a - 1) = false
  hi : nbk t (a + x.size) = false
theorem nbk_end (t : ByteArray) {i : Nat} (h : t.size ≤ i) : nbk t i = false := by unfold nbk; rw [dif_neg (by omega)]
theorem rn_iff (t x : ByteArray) : ∀ n lo i, i + n = t.size + 1 → lo ≤ i → (∀ j, lo ≤ j → j < i → nbk t j = true) → (lo = 0 ∨ nbk t (lo - 1) = false) → (x ∈ rn t n lo i ↔ ∃ a, lo ≤ a ∧ WordAt t x a ∧ i ≤ a + x.size)
  | 0, lo, i, hi, hl, hnb, hlo => by
    simp only [rn, List.not_mem_nil, false_iff]
    rintro ⟨a, _, w, h⟩
    have := w.le
    omega
  | n + 1, lo, i, hi, hl, hnb, hlo => by
    unfold rn
    by_cases hc : nbk t i = true
    · rw [if_pos hc, rn_iff t x n lo (i + 1) (by omega) (by omega) (fun j h1 h2 => by
        by_cases e : j = i
        · rw [e]; exact hc
        · exact hnb j h1 (by omega)) hlo]
      constructor
      · rintro ⟨a, h1, h2, h3⟩; exact ⟨a, h1, h2, by omega⟩
      · rintro ⟨a, h1, h2, h3⟩
        refine ⟨a, h1, h2, ?_⟩
        by_cases e : a + x.size = i
        · have := h2.hi; rw [e, hc] at this; cases this
        · omega
    · have hcf : nbk t i = false := by simpa using hc
      rw [if_neg hc, List.mem_append, rn_iff t x n (i + 1) (i + 1) (by omega) (by omega) (fun j h1 h2 => by omega) (.inr (by simpa using hcf))]
      constructor
      · rintro (h | ⟨a, h1, h2, h3⟩)
        · by_cases hli : lo < i
          · rw [if_pos hli] at h
            simp at h
            have hz : x.size = i - lo := by rw [h, ByteArray.size_extract]; omega
            have ee : lo + x.size = i := by omega
            refine ⟨lo, Nat.le_refl _, ⟨by omega, by omega, by rw [ee]; exact h.symm, fun j h1 h2 => hnb j h1 (by omega), hlo, by rw [ee]; exact hcf⟩, by omega⟩
          · rw [if_neg hli] at h; simp at h
        · exact ⟨a, by omega, h2, by omega⟩
      · rintro ⟨a, h1, h2, h3⟩
        by_cases hai : a ≤ i
        · left
          have e : a + x.size = i := by
            by_cases c : i < a + x.size
            · have := h2.nb i hai c; rw [hcf] at this; cases this
            · omega
          have hp := h2.pos
          have ea : a = lo := by
            by_cases c : a = lo
            · exact c
            · exfalso
              rcases h2.lo with h0 | h0
              · omega
              · have := hnb (a - 1) (by omega) (by omega)
                rw [h0] at this; cases this
          rw [if_pos (by omega)]
          have := h2.ex
          rw [e, ea] at this
          simp [this]
        · right
          exact ⟨a, by omega, h2, by omega⟩
theorem runs_iff (t x : ByteArray) : x ∈ runs t ↔ ∃ a, WordAt t x a := by
  unfold runs
  rw [rn_iff t x (t.size + 1) 0 0 (by omega) (by omega) (fun j h1 h2 => by omega) (.inl rfl)]
  constructor
  · rintro ⟨a, _, h, _⟩; exact ⟨a, h⟩
  · rintro ⟨a, h⟩; exact ⟨a, by omega, h, by omega⟩
/-- A byte of a cut. -/
theorem extract_get (t : ByteArray) {a b j : Nat} (hb : b ≤ t.size) (hj : j < b - a) (h1 : j < (t.extract a b).size) (h2 : a + j < t.size) : (t.extract a b)[j] = t[a + j] := by
  simp [ByteArray.getElem_eq_getElem_data, ByteArray.data_extract]
theorem nb_of_word {t x : ByteArray} {a : Nat} (hle : a + x.size ≤ t.size) (ex : t.extract a (a + x.size) = x) (hx : ∀ (j : Nat) (h : j < x.size), x[j].toNat ≠ 32) : ∀ j, a ≤ j → j < a + x.size → nbk t j = true := by
  intro j h1 h2
  unfold nbk
  rw [dif_pos (by omega)]
  have hj : j - a < x.size := by omega
  have h3 := hx (j - a) hj
  have hs : (t.extract a (a + x.size)).size = x.size := by rw [ex]
  have e : x[j - a] = t[j] := by
    have e1 := extract_get t (a := a) (b := a + x.size) (j := j - a) (by omega) (by omega) (by rw [hs]; exact hj) (by omega)
    have e2 : a + (j - a) = j := by omega
    have e3 : (t.extract a (a + x.size))[j - a]'(by rw [hs]; exact hj) = x[j - a] := by simp only [ex]
    rw [← e3, e1]
    simp only [e2]
  rw [← e]
  simp [h3]
theorem word_noblank {t x : ByteArray} {a : Nat} (h : WordAt t x a) (j : Nat) (hj : j < x.size) : x[j].toNat ≠ 32 := by
  have h1 := h.nb (a + j) (by omega) (by omega)
  have hle := h.le
  unfold nbk at h1
  rw [dif_pos (by omega)] at h1
  have hs : (t.extract a (a + x.size)).size = x.size := by rw [h.ex]
  have e1 := extract_get t (a := a) (b := a + x.size) (j := j) (by omega) (by omega) (by rw [hs]; exact hj) (by omega)
  have e3 : (t.extract a (a + x.size))[j]'(by rw [hs]; exact hj) = x[j] := by simp only [h.ex]
  rw [← e3, e1]
  simpa using h1

theorem lholds_any {t x : ByteArray} (ht : t.size ≤ 1000) (hx : x.size ≤ 1000) (w : World) :
    Calls Try.prog 65 #[.string t, .string x] w fun e w' => e = .returned (.bool (decide (x ∈ runs t))) ∧ w' = w := by
  have htI : (t.size : Int) ≤ 1000 := by omega
  have hxI : (x.size : Int) ≤ 1000 := by omega
  go_enter Try.func65, Try.ntmps65
  go_wp2_with fail
  go_loop [6] (fun b => ∃ k : Nat, k ≤ x.size ∧ b = .int .i64 k ∧ ∀ (j : Nat) (h : j < x.size), j < k → x[j].toNat ≠ 32) (fun b => x.size - (intOf b).toNat)
  case atStart => exact ⟨0, by omega, rfl, fun j _ h => by omega⟩
  case round =>
    obtain ⟨k, hk, rfl, hnb⟩ := hrel
    have HNB0 := hid hnb
    have hk0 : (0 : Int) ≤ (k : Int) := by omega
    clear hnb
    by_cases hlt : k < x.size
    · have hltI : (k : Int) < (x.size : Int) := by omega
      by_cases hb : x[k].toNat = 32
      · have hbb : ((x[k].toNat : Int) == 32) = true := by simp; omega
        have HW : Hid (¬ x ∈ runs t) := fun c => by
          obtain ⟨a, ha⟩ := (runs_iff t x).1 c
          exact word_noblank ha k hlt hb
        go_wp2_with fail
        go_ret
        exact ⟨by simp [HW.out], rfl⟩
      · have hbb : ((x[k].toNat : Int) == 32) = false := by simp; omega
        have HN : Hid (∀ (j : Nat) (h : j < x.size), j < k + 1 → x[j].toNat ≠ 32) := fun j h hj => by
          by_cases e : j = k
          · subst e; exact hb
          · exact HNB0.out j h (by omega)
        clear hb
        go_wp2_with fail
        exact ⟨⟨k + 1, by omega, by go_num, HN.out⟩, by simp [intOf]; omega⟩
    · have hltI : ¬ (k : Int) < (x.size : Int) := by omega
      have HNB : Hid (∀ (j : Nat) (h : j < x.size), x[j].toNat ≠ 32) := fun j h => HNB0.out j h (by omega)
      clear HNB0
      go_wp2_with fail
      go_loop [7] (fun b => ∃ i : Nat, i ≤ t.size + 1 ∧ b = .int .i64 i ∧ ∀ a, a < i → ¬ WordAt t x a) (fun b => t.size + 2 - (intOf b).toNat)
      case atStart => exact ⟨0, by omega, rfl, fun a h => by omega⟩
      case round =>
        obtain ⟨i, hi, rfl, hno⟩ := hrel
        have HNO := hid hno
        have hi0 : (0 : Int) ≤ (i : Int) := by omega
        have hiI : (i : Int) ≤ 1001 := by omega
        clear hno
        by_cases hpos : 0 < x.size
        · have hposI : (0 : Int) < (x.size : Int) := by omega
          by_cases hle : i + x.size ≤ t.size
          · have hleI : (i : Int) + (x.size : Int) ≤ (t.size : Int) := by omega
            have hii : (i : Int) ≤ (i : Int) + (x.size : Int) := by omega
            have hsl : ∀ W, (Instr.slice 9 (.string t) (some (.int .i64 (i : Int))) (some (.int .i64 ((i : Int) + (x.size : Int)))) none).run Try.prog W = .ok (.string (t.extract i (i + x.size))) W := fun W => by
              have := run_slice_string (P := Try.prog) W 9 t .i64 .i64 (i : Int) ((i : Int) + (x.size : Int)) (by kernel_rfl) hi0 hii hleI
              have e : ((i : Int) + (x.size : Int)).toNat = i + x.size := by omega
              rw [e] at this
              simpa using this
            by_cases hex : t.extract i (i + x.size) = x
            · rw [hex] at hsl
              have HEX := hid hex
              clear hex
              by_cases hi1 : i = 0
              · have hip : ¬ (0 : Int) < (i : Int) := by omega
                have HLO : Hid (i = 0 ∨ nbk t (i - 1) = false) := .inl hi1
                have HI1 := hid hi1
                clear hi1
                by_cases hhi : i + x.size = t.size
                · skip
                  have hhib : ((i : Int) + (x.size : Int) == (t.size : Int)) = true := by simp; omega
                  have HW : Hid (x ∈ runs t) := (runs_iff t x).2 ⟨i, ⟨by omega, by omega, HEX.out, nb_of_word (by omega) HEX.out HNB.out, HLO.out, by rw [hhi]; exact nbk_end t (Nat.le_refl _)⟩⟩
                  clear hhi
                  go_wp2_with fail
                  go_ret
                  exact ⟨by simp [HW.out], rfl⟩
                · have hhib : ((i : Int) + (x.size : Int) == (t.size : Int)) = false := by simp; omega
                  have hlt2 : i + x.size < t.size := by omega
                  have hlt2I : (i : Int) + (x.size : Int) < (t.size : Int) := by omega
                  have hidx : ((i : Int) + (x.size : Int)).toNat = i + x.size := by omega
                  by_cases hb : t[i + x.size].toNat = 32
                  · have hbb : ((t[i + x.size].toNat : Int) == 32) = true := by simp; omega
                    have HW : Hid (x ∈ runs t) := (runs_iff t x).2 ⟨i, ⟨by omega, by omega, HEX.out, nb_of_word (by omega) HEX.out HNB.out, HLO.out, by unfold nbk; rw [dif_pos hlt2]; simp [hb]⟩⟩
                    clear hb
                    go_wp2_with fail
                    go_ret
                    exact ⟨by simp [HW.out], rfl⟩
                  · have hbb : ((t[i + x.size].toNat : Int) == 32) = false := by simp; omega
                    go_wp2_with fail
                    exact ⟨⟨i + 1, by omega, by go_num, fun a ha hw => by
                      by_cases e : a = i
                      · subst e
                        have := hw.hi
                        unfold nbk at this
                        rw [dif_pos hlt2] at this
                        simp at this
                        exact hb this
                      · exact HNO.out a (by omega) hw⟩, by simp [intOf]; omega⟩
              · have hip : (0 : Int) < (i : Int) := by omega
                have him : (0 : Int) ≤ (i : Int) - 1 := by omega
                have himt : (i : Int) - 1 < (t.size : Int) := by omega
                have hidx1 : ((i : Int) - 1).toNat = i - 1 := by omega
                by_cases hbl : nbk t (i - 1) = true
                · have hbv : ((t[i - 1].toNat : Int) != 32) = true := by
                    unfold nbk at hbl
                    rw [dif_pos (by omega)] at hbl
                    simp at hbl ⊢
                    omega
                  have HN : Hid (∀ a, a < i + 1 → ¬ WordAt t x a) := fun a ha hw => by
                    by_cases e : a = i
                    · subst e
                      rcases hw.lo with h0 | h0
                      · exact hi1 h0
                      · rw [hbl] at h0; cases h0
                    · exact HNO.out a (by omega) hw
                  clear hbl
                  go_wp2_with fail
                  exact ⟨⟨i + 1, by omega, by go_num, HN.out⟩, by simp [intOf]; omega⟩
                · have hbf : nbk t (i - 1) = false := by simpa using hbl
                  have hbv : ((t[i - 1].toNat : Int) != 32) = false := by
                    unfold nbk at hbf
                    rw [dif_pos (by omega)] at hbf
                    simp at hbf ⊢
                    omega
                  have HLO : Hid (i = 0 ∨ nbk t (i - 1) = false) := .inr hbf
                  clear hbl hbf
                  by_cases hhi : i + x.size = t.size
                  · skip
                    have hhib : ((i : Int) + (x.size : Int) == (t.size : Int)) = true := by simp; omega
                    have HW : Hid (x ∈ runs t) := (runs_iff t x).2 ⟨i, ⟨by omega, by omega, HEX.out, nb_of_word (by omega) HEX.out HNB.out, HLO.out, by rw [hhi]; exact nbk_end t (Nat.le_refl _)⟩⟩
                    clear hhi
                    go_wp2_with fail
                    go_ret
                    exact ⟨by simp [HW.out], rfl⟩
                  · have hhib : ((i : Int) + (x.size : Int) == (t.size : Int)) = false := by simp; omega
                    have hlt2 : i + x.size < t.size := by omega
                    have hlt2I : (i : Int) + (x.size : Int) < (t.size : Int) := by omega
                    have hidx : ((i : Int) + (x.size : Int)).toNat = i + x.size := by omega
                    by_cases hb : t[i + x.size].toNat = 32
                    · have hbb : ((t[i + x.size].toNat : Int) == 32) = true := by simp; omega
                      have HW : Hid (x ∈ runs t) := (runs_iff t x).2 ⟨i, ⟨by omega, by omega, HEX.out, nb_of_word (by omega) HEX.out HNB.out, HLO.out, by unfold nbk; rw [dif_pos hlt2]; simp [hb]⟩⟩
                      clear hb
                      go_wp2_with fail
                      go_ret
                      exact ⟨by simp [HW.out], rfl⟩
                    · have hbb : ((t[i + x.size].toNat : Int) == 32) = false := by simp; omega
                      go_wp2_with fail
                      exact ⟨⟨i + 1, by omega, by go_num, fun a ha hw => by
                        by_cases e : a = i
                        · subst e
                          have := hw.hi
                          unfold nbk at this
                          rw [dif_pos hlt2] at this
                          simp at this
                          exact hb this
                        · exact HNO.out a (by omega) hw⟩, by simp [intOf]; omega⟩
            · have hexb : (!((t.extract i (i + x.size)).toList == x.toList)) = true := by
                have : ((t.extract i (i + x.size)).toList == x.toList) = false := str_ne hex
                rw [this]; rfl
              have HN : Hid (∀ a, a < i + 1 → ¬ WordAt t x a) := fun a ha hw => by
                by_cases e : a = i
                · subst e; exact hex hw.ex
                · exact HNO.out a (by omega) hw
              generalize t.extract i (i + x.size) = pc at *
              clear hex
              go_wp2_with fail
              exact ⟨⟨i + 1, by omega, by go_num, HN.out⟩, by simp [intOf]; omega⟩
          · have hleI : ¬ (i : Int) + (x.size : Int) ≤ (t.size : Int) := by omega
            have HW : Hid (¬ x ∈ runs t) := fun c => by
              obtain ⟨a, ha⟩ := (runs_iff t x).1 c
              by_cases h : a < i
              · exact HNO.out a h ha
              · have := ha.le; omega
            go_wp2_with fail
            go_ret
            exact ⟨by simp [HW.out], rfl⟩
        · have hposI : ¬ (0 : Int) < (x.size : Int) := by omega
          have HW : Hid (¬ x ∈ runs t) := fun c => by
            obtain ⟨a, ha⟩ := (runs_iff t x).1 c
            exact hpos ha.pos
          go_wp2_with fail
          go_ret
          exact ⟨by simp [HW.out], rfl⟩

end Go.Proofs.Qxb6500449a
