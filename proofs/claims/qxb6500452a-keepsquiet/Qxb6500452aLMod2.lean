import Derived.Test.Qxb6500452aLMod
namespace Go.Proofs.Qxb6500452a
open Go Go.RowKit
set_option maxRecDepth 100000
set_option maxHeartbeats 800000
set_option linter.unusedSimpArgs false
set_option linter.unusedVariables false

theorem rel_take {s : L.St} (hs : s.Ok) (k : Int) (hk : 0 ≤ k ∧ k < 4) : L.rel (L.take s k.toNat) (k + 4 * (s.gen k.toNat : Int)) = (0, L.give (L.take s k.toNat) k.toNat) := by
  have hg := hs.gen k.toNat (by omega)
  have hm : ((k + 4 * (s.gen k.toNat : Int)) % 4).toNat = k.toNat := by omega
  unfold L.rel
  rw [if_pos (by omega), hm, if_pos (by rw [L.hdl_take_same]; omega)]

theorem mpair_lt {w : World} {bM : Nat} {s : L.St} (h : MT w bM s) (a b : Int) (ha : 0 ≤ a ∧ a < 4) (hb : 0 ≤ b ∧ b < 4) (hab : a < b) :
    Calls Try.prog 111 #[.pointer (some ⟨bM, 0, none⟩), .int .i64 a, .int .i64 b] w fun e w' =>
      e = .returned (.tuple #[.int .i64 (L.pair s a b).1, .int .i64 (L.pair s a b).2.1, .int .i64 (L.pair s a b).2.2.1]) ∧
      MT w' bM (L.pair s a b).2.2.2 ∧ Fr (S1 bM) w w' := by
  have ga : goodB a = true := by simp [goodB, ha]
  have gb : goodB b = true := by simp [goodB, hb]
  have hne : (a == b) = false := beq_eq_false_iff_ne.2 (by omega)
  have elo : L.lo a b = a := by simp [L.lo]; omega
  have ehi : L.hi a b = b := by simp [L.hi]; omega
  have hb0 : a ≠ b := by omega
  have hA := macquire_any h a
  have hs := h.ok
  have H := hid h
  clear h
  by_cases ho : s.op a.toNat = true
  · have e1 : L.acq s a = (0, 4, s) := by unfold L.acq; rw [if_pos ha, if_pos ho]
    have HF : Hid (L.pair s a b = (0, 0, 4, s)) := by unfold Hid L.pair; rw [if_pos ha, if_pos hb, if_neg hb0, elo, if_pos ho]
    rw [e1] at hA
    have HA := hid hA
    clear hA elo ehi e1 ho hs
    go_enter Try.func111, Try.ntmps111
    go_wp2_with (go_at_call 73; refine (good_any _ _).mono ?_; rintro e w' ⟨rfl, rfl⟩)
    refine HA.out.mono ?_
    rintro e w1 ⟨rfl, hr, hf⟩
    have HR := hid hr
    clear hr HA
    go_wp2_with fail
    go_ret3
    rw [HF.out]
    exact ⟨rfl, HR.out, hf⟩
  · have e1 : L.acq s a = (a + 4 * (s.gen a.toNat : Int), 0, L.take s a.toNat) := by unfold L.acq; rw [if_pos ha, if_neg ho]
    rw [e1] at hA
    have HA := hid hA
    have hop : (L.take s a.toNat).op b.toNat = s.op b.toNat := by simp [L.take, L.updB]; omega
    have hgn : (L.take s a.toNat).gen b.toNat = s.gen b.toNat := rfl
    by_cases ho2 : s.op b.toNat = true
    · have HF : Hid (L.pair s a b = (0, 0, 4, L.give (L.take s a.toNat) a.toNat)) := by unfold Hid L.pair; rw [if_pos ha, if_pos hb, if_neg hb0, elo, ehi, if_neg ho, if_pos ho2]
      have e2 : Hid (L.acq (L.take s a.toNat) b = (0, 4, L.take s a.toNat)) := by unfold Hid L.acq; rw [if_pos hb, hop, if_pos ho2]
      have e3 := hid (rel_take hs a ha)
      clear hA elo ehi e1 ho hop hgn ho2 hs
      generalize L.take s a.toNat = s1 at *
      generalize a + 4 * (s.gen a.toNat : Int) = hdl at *
      go_enter Try.func111, Try.ntmps111
      go_wp2_with (go_at_call 73; refine (good_any _ _).mono ?_; rintro e w' ⟨rfl, rfl⟩)
      refine HA.out.mono ?_
      rintro e w1 ⟨rfl, hr, hf⟩
      have hB := macquire_any hr b
      rw [e2.out] at hB
      have HB := hid hB
      clear hr HA hB
      go_wp2_with fail
      refine HB.out.mono ?_
      rintro e w2 ⟨rfl, hr2, hf2⟩
      have hC := mrelease_any hr2 hdl
      rw [e3.out] at hC
      have HC := hid hC
      clear hr2 HB hC
      go_wp2_with fail
      refine HC.out.mono ?_
      rintro e w3 ⟨rfl, hr3, hf3⟩
      have HR := hid hr3
      clear hr3 HC
      go_wp2_with fail
      go_ret3
      rw [HF.out]
      exact ⟨rfl, HR.out, (hf.trans hf2).trans hf3⟩
    · have HF : Hid (L.pair s a b = (a + 4 * (s.gen a.toNat : Int), b + 4 * (s.gen b.toNat : Int), 0, L.take (L.take s a.toNat) b.toNat)) := by unfold Hid L.pair; rw [if_pos ha, if_pos hb, if_neg hb0, elo, ehi, if_neg ho, if_neg ho2]
      have e2 : Hid (L.acq (L.take s a.toNat) b = (b + 4 * (s.gen b.toNat : Int), 0, L.take (L.take s a.toNat) b.toNat)) := by unfold Hid L.acq; rw [if_pos hb, hop, if_neg ho2, hgn]
      clear hA elo ehi e1 ho hop hgn ho2 hs
      generalize L.take (L.take s a.toNat) b.toNat = s2 at *
      generalize L.take s a.toNat = s1 at *
      generalize a + 4 * (s.gen a.toNat : Int) = hdl at *
      generalize b + 4 * (s.gen b.toNat : Int) = hdh at *
      go_enter Try.func111, Try.ntmps111
      go_wp2_with (go_at_call 73; refine (good_any _ _).mono ?_; rintro e w' ⟨rfl, rfl⟩)
      refine HA.out.mono ?_
      rintro e w1 ⟨rfl, hr, hf⟩
      have hB := macquire_any hr b
      rw [e2.out] at hB
      have HB := hid hB
      clear hr HA hB
      go_wp2_with fail
      refine HB.out.mono ?_
      rintro e w2 ⟨rfl, hr2, hf2⟩
      have HR := hid hr2
      clear hr2 HB
      go_wp2_with fail
      go_ret3
      rw [HF.out]
      exact ⟨rfl, HR.out, hf.trans hf2⟩

theorem mpair_gt {w : World} {bM : Nat} {s : L.St} (h : MT w bM s) (a b : Int) (ha : 0 ≤ a ∧ a < 4) (hb : 0 ≤ b ∧ b < 4) (hab : b < a) :
    Calls Try.prog 111 #[.pointer (some ⟨bM, 0, none⟩), .int .i64 a, .int .i64 b] w fun e w' =>
      e = .returned (.tuple #[.int .i64 (L.pair s a b).1, .int .i64 (L.pair s a b).2.1, .int .i64 (L.pair s a b).2.2.1]) ∧
      MT w' bM (L.pair s a b).2.2.2 ∧ Fr (S1 bM) w w' := by
  have ga : goodB a = true := by simp [goodB, ha]
  have gb : goodB b = true := by simp [goodB, hb]
  have hne : (a == b) = false := beq_eq_false_iff_ne.2 (by omega)
  have elo : L.lo a b = b := by simp [L.lo]; omega
  have ehi : L.hi a b = a := by simp [L.hi]; omega
  have hb0 : a ≠ b := by omega
  have hA := macquire_any h b
  have hs := h.ok
  have H := hid h
  clear h
  by_cases ho : s.op b.toNat = true
  · have e1 : L.acq s b = (0, 4, s) := by unfold L.acq; rw [if_pos hb, if_pos ho]
    have HF : Hid (L.pair s a b = (0, 0, 4, s)) := by unfold Hid L.pair; rw [if_pos ha, if_pos hb, if_neg hb0, elo, if_pos ho]
    rw [e1] at hA
    have HA := hid hA
    clear hA elo ehi e1 ho hs
    go_enter Try.func111, Try.ntmps111
    go_wp2_with (go_at_call 73; refine (good_any _ _).mono ?_; rintro e w' ⟨rfl, rfl⟩)
    refine HA.out.mono ?_
    rintro e w1 ⟨rfl, hr, hf⟩
    have HR := hid hr
    clear hr HA
    go_wp2_with fail
    go_ret3
    rw [HF.out]
    exact ⟨rfl, HR.out, hf⟩
  · have e1 : L.acq s b = (b + 4 * (s.gen b.toNat : Int), 0, L.take s b.toNat) := by unfold L.acq; rw [if_pos hb, if_neg ho]
    rw [e1] at hA
    have HA := hid hA
    have hop : (L.take s b.toNat).op a.toNat = s.op a.toNat := by simp [L.take, L.updB]; omega
    have hgn : (L.take s b.toNat).gen a.toNat = s.gen a.toNat := rfl
    by_cases ho2 : s.op a.toNat = true
    · have HF : Hid (L.pair s a b = (0, 0, 4, L.give (L.take s b.toNat) b.toNat)) := by unfold Hid L.pair; rw [if_pos ha, if_pos hb, if_neg hb0, elo, ehi, if_neg ho, if_pos ho2]
      have e2 : Hid (L.acq (L.take s b.toNat) a = (0, 4, L.take s b.toNat)) := by unfold Hid L.acq; rw [if_pos ha, hop, if_pos ho2]
      have e3 := hid (rel_take hs b hb)
      clear hA elo ehi e1 ho hop hgn ho2 hs
      generalize L.take s b.toNat = s1 at *
      generalize b + 4 * (s.gen b.toNat : Int) = hdl at *
      go_enter Try.func111, Try.ntmps111
      go_wp2_with (go_at_call 73; refine (good_any _ _).mono ?_; rintro e w' ⟨rfl, rfl⟩)
      refine HA.out.mono ?_
      rintro e w1 ⟨rfl, hr, hf⟩
      have hB := macquire_any hr a
      rw [e2.out] at hB
      have HB := hid hB
      clear hr HA hB
      go_wp2_with fail
      refine HB.out.mono ?_
      rintro e w2 ⟨rfl, hr2, hf2⟩
      have hC := mrelease_any hr2 hdl
      rw [e3.out] at hC
      have HC := hid hC
      clear hr2 HB hC
      go_wp2_with fail
      refine HC.out.mono ?_
      rintro e w3 ⟨rfl, hr3, hf3⟩
      have HR := hid hr3
      clear hr3 HC
      go_wp2_with fail
      go_ret3
      rw [HF.out]
      exact ⟨rfl, HR.out, (hf.trans hf2).trans hf3⟩
    · have HF : Hid (L.pair s a b = (a + 4 * (s.gen a.toNat : Int), b + 4 * (s.gen b.toNat : Int), 0, L.take (L.take s b.toNat) a.toNat)) := by unfold Hid L.pair; rw [if_pos ha, if_pos hb, if_neg hb0, elo, ehi, if_neg ho, if_neg ho2]
      have e2 : Hid (L.acq (L.take s b.toNat) a = (a + 4 * (s.gen a.toNat : Int), 0, L.take (L.take s b.toNat) a.toNat)) := by unfold Hid L.acq; rw [if_pos ha, hop, if_neg ho2, hgn]
      clear hA elo ehi e1 ho hop hgn ho2 hs
      generalize L.take (L.take s b.toNat) a.toNat = s2 at *
      generalize L.take s b.toNat = s1 at *
      generalize b + 4 * (s.gen b.toNat : Int) = hdl at *
      generalize a + 4 * (s.gen a.toNat : Int) = hdh at *
      go_enter Try.func111, Try.ntmps111
      go_wp2_with (go_at_call 73; refine (good_any _ _).mono ?_; rintro e w' ⟨rfl, rfl⟩)
      refine HA.out.mono ?_
      rintro e w1 ⟨rfl, hr, hf⟩
      have hB := macquire_any hr a
      rw [e2.out] at hB
      have HB := hid hB
      clear hr HA hB
      go_wp2_with fail
      refine HB.out.mono ?_
      rintro e w2 ⟨rfl, hr2, hf2⟩
      have HR := hid hr2
      clear hr2 HB
      go_wp2_with fail
      go_ret3
      rw [HF.out]
      exact ⟨rfl, HR.out, hf.trans hf2⟩

theorem mpair_any {w : World} {bM : Nat} {s : L.St} (h : MT w bM s) (a b : Int) :
    Calls Try.prog 111 #[.pointer (some ⟨bM, 0, none⟩), .int .i64 a, .int .i64 b] w fun e w' =>
      e = .returned (.tuple #[.int .i64 (L.pair s a b).1, .int .i64 (L.pair s a b).2.1, .int .i64 (L.pair s a b).2.2.1]) ∧
      MT w' bM (L.pair s a b).2.2.2 ∧ Fr (S1 bM) w w' := by
  by_cases ha : 0 ≤ a ∧ a < 4
  · have ga : goodB a = true := by simp [goodB, ha]
    by_cases hb : 0 ≤ b ∧ b < 4
    · have gb : goodB b = true := by simp [goodB, hb]
      by_cases hab : a = b
      · subst hab
        have HF : Hid (L.pair s a a = (0, 0, 3, s)) := by unfold Hid L.pair; rw [if_pos ha, if_pos ha, if_pos rfl]
        go_enter Try.func111, Try.ntmps111
        go_wp2_with (go_at_call 73; refine (good_any _ _).mono ?_; rintro e w' ⟨rfl, rfl⟩)
        go_ret3
        rw [HF.out]
        exact ⟨rfl, h, Fr.refl _ _⟩
      · rcases Int.lt_or_gt_of_ne hab with hl | hl
        · exact mpair_lt h a b ha hb hl
        · exact mpair_gt h a b ha hb hl
    · have gb : goodB b = false := by simp [goodB]; omega
      have HF : Hid (L.pair s a b = (0, 0, 2, s)) := by unfold Hid L.pair; rw [if_pos ha, if_neg hb]
      go_enter Try.func111, Try.ntmps111
      go_wp2_with (go_at_call 73; refine (good_any _ _).mono ?_; rintro e w' ⟨rfl, rfl⟩)
      go_ret3
      rw [HF.out]
      exact ⟨rfl, h, Fr.refl _ _⟩
  · have ga : goodB a = false := by simp [goodB]; omega
    have HF : Hid (L.pair s a b = (0, 0, 2, s)) := by unfold Hid L.pair; rw [if_neg ha]
    go_enter Try.func111, Try.ntmps111
    go_wp2_with (go_at_call 73; refine (good_any _ _).mono ?_; rintro e w' ⟨rfl, rfl⟩)
    go_ret3
    rw [HF.out]
    exact ⟨rfl, h, Fr.refl _ _⟩

theorem mshow_any {w : World} {bM : Nat} {s : L.St} (h : MT w bM s) :
    Calls Try.prog 69 #[.pointer (some ⟨bM, 0, none⟩)] w fun e w' => e = .returned (.string (L.bs (L.showL s))) ∧ Fr (fun _ => False) w w' := by
  have H := hid h
  clear h
  go_enter Try.func69, Try.ntmps69
  go_wp2_with fail
  go_loop [3, 4] (fun t i => ∃ k : Nat, k ≤ 4 ∧ i = .int .i64 k ∧ t = .string (L.bs (opTo s k))) (fun _ i => 4 - (intOf i).toNat)
  case atStart => exact ⟨0, by omega, rfl, rfl⟩
  case round =>
    obtain ⟨k, hk, rfl, rfl⟩ := hrel
    have hk0 : (0 : Int) ≤ (k : Int) := by omega
    have hz : (L.bs (opTo s k)).size ≤ 100 := by rw [bs_size, opTo_len]; omega
    by_cases hlt : k < 4
    · have hk4 : (k : Int) < 4 := by omega
      have co := (H.out.mo k hlt).c
      cases ho : s.op k
      · rw [ho] at co
        have HE : Hid (opTo s (k + 1) = opTo s k ++ [48]) := by simp [Hid, opTo, L.openD, ho]
        clear ho
        go_wp2_with fail
        go_round
        case rel => exact ⟨k + 1, by omega, by go_num, by rw [HE.out, ← L.bs_append]; rfl⟩
        case measure => simp [intOf]; omega
      · rw [ho] at co
        have HE : Hid (opTo s (k + 1) = opTo s k ++ [49]) := by simp [Hid, opTo, L.openD, ho]
        clear ho
        go_wp2_with fail
        go_round
        case rel => exact ⟨k + 1, by omega, by go_num, by rw [HE.out, ← L.bs_append]; rfl⟩
        case measure => simp [intOf]; omega
    · have hk4 : ¬ (k : Int) < 4 := by omega
      have hk4' : k = 4 := by omega
      subst hk4'
      go_wp2_with fail
      have e0 : (L.bs (opTo s 4)) ++ (⟨#[32, 103, 101, 110, 61]⟩ : ByteArray) = L.bs (genTo s 0) := by
        show L.bs (opTo s 4) ++ L.bs [32, 103, 101, 110, 61] = _
        rw [L.bs_append]; rfl
      rw [e0]
      clear e0
      go_loopw [3, 5] (fun t i wr => ∃ k : Nat, k ≤ 4 ∧ i = .int .i64 k ∧ t = .string (L.bs (genTo s k)) ∧ Fr (fun _ => False) w wr) (fun _ i _ => 4 - (intOf i).toNat)
      case atStart => exact ⟨0, by omega, rfl, rfl, Fr.refl _ _⟩
      case round =>
        obtain ⟨k, hk, rfl, rfl, hf⟩ := hrel
        have hR := H.out.fr hf (fun f => f)
        clear hk0 hz hk4 hlt
        have hk0 : (0 : Int) ≤ (k : Int) := by omega
        have hz : (L.bs (genTo s k)).size ≤ 100 := by rw [bs_size, genTo_len]; omega
        have HF := hid hf
        clear hf
        by_cases hlt : k < 4
        · have hk4 : (k : Int) < 4 := by omega
          have cg := (hR.mg k hlt).c
          have hg := hR.ok.gen k hlt
          have hz2 : (L.bs [L.dig (s.gen k)]).size ≤ 100 := by rw [bs_size]; simp
          clear hR
          go_wp2_with (go_at_call 32; refine (itoa_small _ (by omega) _).mono ?_; rintro e w2 ⟨rfl, hf2⟩)
          go_roundw
          case rel => exact ⟨k + 1, by omega, by go_num, by rw [L.bs_append]; rfl, HF.out.trans hf2⟩
          case measure => simp [intOf]; omega
        · have hk4 : ¬ (k : Int) < 4 := by omega
          have hk4' : k = 4 := by omega
          subst hk4'
          have mt := hR.mt.c
          have hlen := hR.ok.len
          have hz3 : (L.bs s.tr).size ≤ 24 := by rw [bs_size]; exact hlen
          have HE := hid (showL_eq s)
          clear hR
          go_wp2_with fail
          go_ret
          refine ⟨?_, HF.out⟩
          rw [HE.out]
          rw [← L.bs_append, ← L.bs_append]
          rfl
end Go.Proofs.Qxb6500452a
