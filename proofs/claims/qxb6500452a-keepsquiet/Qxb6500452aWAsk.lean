/- The model of the ledger: Balance, Split, Audit, Show, Census. -/
import Derived.Test.Qxb6500452aWRep
namespace Go.Proofs.Qxb6500452a
open Go Go.RowKit
set_option maxRecDepth 100000
set_option maxHeartbeats 1600000
set_option linter.unusedSimpArgs false
set_option linter.unusedVariables false

theorem mbalance_any {w : World} {X M : Nat} {s : Led} (h : ML w X M s) (k : Int) :
    Calls Try.prog 101 #[.pointer (some ⟨X, 0, none⟩), .int .i64 k] w fun e w' => e = .returned (.tuple #[.int .i64 (balN s k), .int .i64 (acqE s k)]) ∧ ML w' X M (oneS s k) ∧ Fr (SM X M) w w' := by
  have d0 := h.m0.c
  have H := hid h
  clear h
  by_cases hE : acqE s k = 0
  · have hN : balN s k = s.bal k.toNat := by unfold balN; rw [if_pos hE]
    have hS : oneS s k = ⟨(L.rel (L.acq (L.clear s.lk) k).2.2 (L.acq (L.clear s.lk) k).1).2, s.bal, s.un⟩ := by unfold oneS; rw [if_pos hE]
    rw [hN, hS, hE]
    clear hN hS
    have HE : Hid ((L.acq (L.clear s.lk) k).2.1 = 0) := hE
    obtain ⟨k0, k4⟩ := acq_zero hE
    obtain ⟨n, rfl⟩ : ∃ n : Nat, k = (n : Int) := ⟨k.toNat, by omega⟩
    have hn4 : n < 4 := by omega
    simp only [Int.toNat_natCast]
    clear hE
    go_enter Try.func101, Try.ntmps101
    go_wp2_with fail
    refine (mclear_any H.out.mt).mono ?_
    rintro e w1 ⟨rfl, r1, f1⟩
    have L1 := hid (H.out.lock r1 f1)
    have F1 := hid f1
    have d0 := L1.out.m0.c
    clear r1 f1
    go_wp2_with fail
    refine (macquire_any L1.out.mt (n : Int)).mono ?_
    rintro e w2 ⟨rfl, r2, f2⟩
    rw [HE.out]
    have L2 := hid (L1.out.lock r2 f2)
    have F2 := hid (F1.out.trans f2)
    have d0 := L2.out.m0.c
    clear r2 f2 F1 L1
    go_wp2_with fail
    refine (mrelease_any L2.out.mt _).mono ?_
    rintro e w3 ⟨rfl, r3, f3⟩
    have L3 := hid (L2.out.lock r3 f3)
    have F3 := hid (F2.out.trans f3)
    have c := (L3.out.mb n hn4).c
    simp only at c
    have hk0 : (0 : Int) ≤ (n : Int) := by omega
    clear r3 f3 F2 L2
    go_wp2_with fail
    go_ret2
    exact ⟨rfl, L3.out, F3.out.mono (fun _ _ h => SM_of1 h)⟩
  · have hN : balN s k = 0 := by unfold balN; rw [if_neg hE]
    have hS : oneS s k = clr s := by unfold oneS; rw [if_neg hE]
    rw [hN, hS]
    clear hN hS
    have HQ := hid (acq_err (s := L.clear s.lk) (k := k) hE)
    have hEb : ((L.acq (L.clear s.lk) k).2.1 != 0) = true := by simp; exact hE
    clear hE
    go_enter Try.func101, Try.ntmps101
    go_wp2_with fail
    refine (mclear_any H.out.mt).mono ?_
    rintro e w1 ⟨rfl, r1, f1⟩
    have L1 := hid (H.out.lock r1 f1)
    have F1 := hid f1
    have d0 := L1.out.m0.c
    clear r1 f1
    go_wp2_with fail
    refine (macquire_any L1.out.mt k).mono ?_
    rintro e w2 ⟨rfl, r2, f2⟩
    rw [show (⟨L.clear s.lk, s.bal, s.un⟩ : Led).lk = L.clear s.lk from rfl] at r2
    rw [HQ.out] at r2
    have L2 := hid (L1.out.lock r2 f2)
    have F2 := hid (F1.out.trans f2)
    clear r2 f2 F1 L1
    go_wp2_with fail
    go_ret2
    exact ⟨rfl, L2.out, F2.out.mono (fun _ _ h => SM_of1 h)⟩

def divC1 : List PanicEntry := [{ v := divV, recovered := false }]

theorem msplit_zero {w : World} {X M : Nat} {s : Led} (h : ML w X M s) {k : Int} (hE : acqE s k = 0) :
    Calls Try.prog 102 #[.pointer (some ⟨X, 0, none⟩), .int .i64 k, .int .i64 0] w fun e w' => e = .panicked divC1 ∧ ML w' X M (oneS s k) ∧ Fr (SM X M) w w' := by
  have d0 := h.m0.c
  have H := hid h
  clear h
  have hS : oneS s k = ⟨(L.rel (L.acq (L.clear s.lk) k).2.2 (L.acq (L.clear s.lk) k).1).2, s.bal, s.un⟩ := by unfold oneS; rw [if_pos hE]
  rw [hS]
  clear hS
  · skip
    have HE : Hid ((L.acq (L.clear s.lk) k).2.1 = 0) := hE
    obtain ⟨k0, k4⟩ := acq_zero hE
    obtain ⟨n, rfl⟩ : ∃ n : Nat, k = (n : Int) := ⟨k.toNat, by omega⟩
    have hn4 : n < 4 := by omega
    clear hE
    go_enter Try.func102, Try.ntmps102
    go_wp2_with fail
    refine (mclear_any H.out.mt).mono ?_
    rintro e w1 ⟨rfl, r1, f1⟩
    have L1 := hid (H.out.lock r1 f1)
    have F1 := hid f1
    have d0 := L1.out.m0.c
    clear r1 f1
    go_wp2_with fail
    refine (macquire_any L1.out.mt (n : Int)).mono ?_
    rintro e w2 ⟨rfl, r2, f2⟩
    rw [HE.out]
    have L2 := hid (L1.out.lock r2 f2)
    have F2 := hid (F1.out.trans f2)
    have d0 := L2.out.m0.c
    clear r2 f2 F1 L1
    go_wp2_with fail
    refine (mrelease_any L2.out.mt _).mono ?_
    rintro e w3 ⟨rfl, r3, f3⟩
    have L3 := hid (L2.out.lock r3 f3)
    have F3 := hid (F2.out.trans f3)
    have c := (L3.out.mb n hn4).c
    simp only at c
    have hk0 : (0 : Int) ≤ (n : Int) := by omega
    clear r3 f3 F2 L2
    go_wp2_with fail
    exact ⟨rfl, rfl, L3.out, F3.out.mono (fun _ _ h => SM_of1 h)⟩

theorem msplit_any {w : World} {X M : Nat} {s : Led} (h : ML w X M s) (k p : Int) (hp : ¬ (p = 0 ∧ acqE s k = 0)) :
    Calls Try.prog 102 #[.pointer (some ⟨X, 0, none⟩), .int .i64 k, .int .i64 p] w fun e w' => e = .returned (.tuple #[.int .i64 (splN s k p), .int .i64 (splE s k p)]) ∧ ML w' X M (splS s k p) ∧ Fr (SM X M) w w' := by
  have d0 := h.m0.c
  have H := hid h
  clear h
  by_cases hneg : p < 0
  · have hN : splN s k p = 0 ∧ splE s k p = 2 ∧ splS s k p = clr s := by simp [splN, splE, splS, hneg]
    rw [hN.1, hN.2.1, hN.2.2]
    clear hN hp
    go_enter Try.func102, Try.ntmps102
    go_wp2_with fail
    refine (mclear_any H.out.mt).mono ?_
    rintro e w1 ⟨rfl, r1, f1⟩
    have L1 := hid (H.out.lock r1 f1)
    have F1 := hid f1
    have d0 := L1.out.m0.c
    clear r1 f1
    go_wp2_with fail
    go_ret2
    exact ⟨rfl, L1.out, F1.out.mono (fun _ _ h => SM_of1 h)⟩
  have hN0 : splE s k p = acqE s k ∧ splS s k p = oneS s k := by simp [splE, splS, hneg]
  rw [hN0.1, hN0.2]
  clear hN0
  by_cases hE : acqE s k = 0
  · have hp0 : ¬ p = 0 := fun e => hp ⟨e, hE⟩
    have hN : splN s k p = (s.bal k.toNat).tdiv p := by unfold splN; rw [if_neg hneg, if_pos hE]
    have hS : oneS s k = ⟨(L.rel (L.acq (L.clear s.lk) k).2.2 (L.acq (L.clear s.lk) k).1).2, s.bal, s.un⟩ := by unfold oneS; rw [if_pos hE]
    rw [hN, hS, hE]
    clear hN hS hp
    have hp1 : 1 ≤ p := by omega
    have HE : Hid ((L.acq (L.clear s.lk) k).2.1 = 0) := hE
    obtain ⟨k0, k4⟩ := acq_zero hE
    obtain ⟨n, rfl⟩ : ∃ n : Nat, k = (n : Int) := ⟨k.toNat, by omega⟩
    have hn4 : n < 4 := by omega
    simp only [Int.toNat_natCast]
    clear hE
    obtain ⟨v0, v1⟩ := H.out.bl n hn4
    have hq0 : 0 ≤ (s.bal n).tdiv p := Int.tdiv_nonneg v0 (by omega)
    have hq1 : (s.bal n).tdiv p ≤ 250 := Int.le_trans (Int.tdiv_le_self _ v0) v1
    have hw : IntKind.i64.wrap ((s.bal n).tdiv p) = (s.bal n).tdiv p := Go.IntWalk.i64_in _ (by omega)
    go_enter Try.func102, Try.ntmps102
    go_wp2_with fail
    refine (mclear_any H.out.mt).mono ?_
    rintro e w1 ⟨rfl, r1, f1⟩
    have L1 := hid (H.out.lock r1 f1)
    have F1 := hid f1
    have d0 := L1.out.m0.c
    clear r1 f1
    go_wp2_with fail
    refine (macquire_any L1.out.mt (n : Int)).mono ?_
    rintro e w2 ⟨rfl, r2, f2⟩
    rw [HE.out]
    have L2 := hid (L1.out.lock r2 f2)
    have F2 := hid (F1.out.trans f2)
    have d0 := L2.out.m0.c
    clear r2 f2 F1 L1
    go_wp2_with fail
    refine (mrelease_any L2.out.mt _).mono ?_
    rintro e w3 ⟨rfl, r3, f3⟩
    have L3 := hid (L2.out.lock r3 f3)
    have F3 := hid (F2.out.trans f3)
    have c := (L3.out.mb n hn4).c
    simp only at c
    have hk0 : (0 : Int) ≤ (n : Int) := by omega
    clear r3 f3 F2 L2
    go_wp2_with fail
    go_ret2
    exact ⟨rfl, L3.out, F3.out.mono (fun _ _ h => SM_of1 h)⟩
  · have hN : splN s k p = 0 := by unfold splN; rw [if_neg hneg, if_neg hE]
    have hS : oneS s k = clr s := by unfold oneS; rw [if_neg hE]
    rw [hN, hS]
    clear hN hS hp
    have HQ := hid (acq_err (s := L.clear s.lk) (k := k) hE)
    have hEb : ((L.acq (L.clear s.lk) k).2.1 != 0) = true := by simp; exact hE
    clear hE
    go_enter Try.func102, Try.ntmps102
    go_wp2_with fail
    refine (mclear_any H.out.mt).mono ?_
    rintro e w1 ⟨rfl, r1, f1⟩
    have L1 := hid (H.out.lock r1 f1)
    have F1 := hid f1
    have d0 := L1.out.m0.c
    clear r1 f1
    go_wp2_with fail
    refine (macquire_any L1.out.mt k).mono ?_
    rintro e w2 ⟨rfl, r2, f2⟩
    rw [show (⟨L.clear s.lk, s.bal, s.un⟩ : Led).lk = L.clear s.lk from rfl] at r2
    rw [HQ.out] at r2
    have L2 := hid (L1.out.lock r2 f2)
    have F2 := hid (F1.out.trans f2)
    clear r2 f2 F1 L1
    go_wp2_with fail
    go_ret2
    exact ⟨rfl, L2.out, F2.out.mono (fun _ _ h => SM_of1 h)⟩

theorem mlshow_any {w : World} {X M : Nat} {s : Led} (h : ML w X M s) :
    Calls Try.prog 44 #[.pointer (some ⟨X, 0, none⟩)] w fun e w' => e = .returned (.string (L.bs (showD s))) ∧ Fr (fun _ => False) w w' := by
  have H := hid h
  have hul := h.ul
  clear h
  go_enter Try.func44, Try.ntmps44
  go_wp2_with fail
  go_loopw [3, 4] (fun t i wr => ∃ k : Nat, k ≤ 4 ∧ i = .int .i64 k ∧ t = .string (L.bs (balL s.bal k)) ∧ Fr (fun _ => False) w wr) (fun _ i _ => 4 - (intOf i).toNat)
  case atStart => exact ⟨0, by omega, rfl, rfl, Fr.refl _ _⟩
  case round =>
    obtain ⟨k, hk, rfl, rfl, fr⟩ := hrel
    have FR := hid fr
    have hk0 : (0 : Int) ≤ (k : Int) := by omega
    have hz : (L.bs (balL s.bal k)).size ≤ 1000 := by rw [Lbs_size]; have := balL_len s.bal k; omega
    by_cases hlt : k < 4
    · have hk4 : (k : Int) < 4 := by omega
      have c := ((H.out.mb k hlt).fr fr (fun h => h)).c
      obtain ⟨b1, b2⟩ := H.out.bl k hlt
      have hz2 : (Ia.bs (Ia.itoa (s.bal k))).size ≤ 21 := by rw [Ia.bs_size]; exact Ia.itoa_len _
      have HE : Hid (L.bs (balL s.bal (k + 1)) = L.bs (balL s.bal k) ++ Ia.bs (Ia.itoa (s.bal k)) ++ ⟨#[44]⟩) := by
        show L.bs (balL s.bal k ++ Ia.itoa (s.bal k) ++ [44]) = _
        rw [← L.bs_append, ← L.bs_append]
        rfl
      generalize s.bal k = v at *
      clear fr
      go_wp2_with (go_at_call 32; refine (Ia.itoa_any _ _ (by omega) (by omega)).mono ?_; rintro e w2 ⟨rfl, hf2⟩)
      exact ⟨⟨k + 1, by omega, by go_num, by rw [HE.out], FR.out.trans hf2⟩, by simp [intOf]; omega⟩
    · have hk4 : ¬ (k : Int) < 4 := by omega
      obtain rfl : k = 4 := by omega
      have d3 := (H.out.mu.fr fr (fun h => h)).c
      clear fr
      go_wp2_with fail
      refine (Ia.itoa_any (s.un : Int) _ (by omega) (by omega)).mono ?_
      rintro e w2 ⟨rfl, f2⟩
      have FR2 := hid (FR.out.trans f2)
      have d0 := (H.out.m0.fr FR2.out (fun h => h)).c
      have hz2 : (Ia.bs (Ia.itoa (s.un : Int))).size ≤ 21 := by rw [Ia.bs_size]; exact Ia.itoa_len _
      clear f2 d3
      go_wp2_with fail
      refine (mshow_any (H.out.mt.fr FR2.out (fun h => h))).mono ?_
      rintro e w3 ⟨rfl, f3⟩
      have hz3 : (L.bs (L.showL s.lk)).size ≤ 100 := by
        rw [Lbs_size]
        have := H.out.mt.ok.len
        simp [L.showL]
        omega
      have HF := hid (FR2.out.trans f3)
      clear f3
      go_wp2_with fail
      go_ret
      refine ⟨?_, HF.out⟩
      unfold showD
      rw [← L.bs_append, ← L.bs_append, ← L.bs_append, ← L.bs_append]
      rfl

theorem mcensus_any {w : World} {X M : Nat} {s : Led} (h : ML w X M s) :
    Calls Try.prog 100 #[.pointer (some ⟨X, 0, none⟩)] w fun e w' => e = .returned (.tuple #[.int .i64 (cenA s).1, .int .i64 (cenA s).2.1]) ∧ ML w' X M (cenS s) ∧ Fr (SM X M) w w' := by
  have H := hid h
  have d0 := h.m0.c
  clear h
  go_enter Try.func100, Try.ntmps100
  go_wp2_with fail
  refine (mclear_any H.out.mt).mono ?_
  rintro e w1 ⟨rfl, r1, f1⟩
  have L1 := hid (H.out.lock r1 f1)
  have F1 := hid f1
  have d0 := L1.out.m0.c
  clear r1 f1
  go_wp2_with fail
  go_loopw [4, 5] (fun v i wr => ∃ (k : Nat) (n : Int) (lk : L.St), k ≤ 4 ∧ i = .int .i64 k ∧ v = .int .i64 n ∧ 0 ≤ n ∧ n ≤ 250 * k ∧ cenL s.bal (4 - k) k lk n = cenA s ∧ ML wr X M ⟨lk, s.bal, s.un⟩ ∧ Fr (SM X M) w wr) (fun _ i _ => 4 - (intOf i).toNat)
  case atStart => exact ⟨0, 0, _, by omega, rfl, rfl, by omega, by omega, rfl, L1.out, F1.out.mono (fun _ _ h => SM_of1 h)⟩
  case round =>
    clear L1 F1 d0
    obtain ⟨k, n, lk, hk, rfl, rfl, n0, n1, hfin, hm, hf⟩ := hrel
    have HM := hid hm
    have HF := hid hf
    have HFI := hid hfin
    have hk0 : (0 : Int) ≤ (k : Int) := by omega
    clear hf hfin
    by_cases hlt : k < 4
    · have hk4 : (k : Int) < 4 := by omega
      have d0 := hm.m0.c
      have hb := H.out.bl k hlt
      clear hm
      have HFI' : Hid ((if (cen1 s.bal lk k n).2.1 = 0 then cenL s.bal (4 - (k + 1)) (k + 1) (cen1 s.bal lk k n).2.2 (cen1 s.bal lk k n).1 else cen1 s.bal lk k n) = cenA s) := by
        have := HFI.out
        rw [show 4 - k = (4 - (k + 1)) + 1 by omega] at this
        exact this
      clear HFI
      go_wp2_with fail
      refine (macquire_any HM.out.mt (k : Int)).mono ?_
      rintro e w2 ⟨rfl, r2, f2⟩
      simp only at r2
      have L2 := hid (HM.out.lock r2 f2)
      have F2 : Hid (Fr (SM X M) w w2) := HF.out.trans (f2.mono (fun _ _ h => SM_of1 h))
      have d0 := L2.out.m0.c
      have c := (L2.out.mb k hlt).c
      simp only at c
      clear r2 f2
      by_cases hE : (L.acq lk (k : Int)).2.1 = 0
      · have HE : Hid (cen1 s.bal lk k n = (n + s.bal k, 0, (L.rel (L.acq lk (k : Int)).2.2 (L.acq lk (k : Int)).1).2)) := by unfold Hid cen1; rw [if_pos hE]
        rw [HE.out, if_pos rfl] at HFI'
        simp only at HFI'
        simp only
        rw [hE]
        clear hE HE
        go_wp2_with fail
        refine (mrelease_any L2.out.mt _).mono ?_
        rintro e w3 ⟨rfl, r3, f3⟩
        have L3 := hid (L2.out.lock r3 f3)
        have F3 : Hid (Fr (SM X M) w w3) := F2.out.trans (f3.mono (fun _ _ h => SM_of1 h))
        clear r3 f3
        go_wp2_with fail
        exact ⟨⟨k + 1, _, _, by omega, by go_num, rfl, by omega, by omega, HFI'.out, L3.out, F3.out⟩, by simp [intOf]; omega⟩
      · have HE : Hid (cen1 s.bal lk k n = (0, (L.acq lk (k : Int)).2.1, lk)) := by unfold Hid cen1; rw [if_neg hE]
        rw [HE.out, if_neg hE] at HFI'
        have hEb : ((L.acq lk (k : Int)).2.1 != 0) = true := by simp [hE]
        have HQ := hid (acq_err (s := lk) (k := (k : Int)) hE)
        clear hE HE
        go_wp2_with fail
        go_ret2
        have L3 := L2.out
        rw [HQ.out] at L3
        unfold cenS
        rw [← HFI'.out]
        exact ⟨rfl, L3, F2.out⟩
    · have hk4 : ¬ (k : Int) < 4 := by omega
      obtain rfl : k = 4 := by omega
      clear hm
      go_wp2_with fail
      go_ret2
      have e : cenA s = (n, 0, lk) := HFI.out.symm
      unfold cenS
      rw [e]
      exact ⟨rfl, HM.out, HF.out⟩

end Go.Proofs.Qxb6500452a
