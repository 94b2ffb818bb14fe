/- The real ledger: Balance, Check. -/
import Derived.Test.Qxb6500452aVFar
namespace Go.Proofs.Qxb6500452a
open Go Go.RowKit
set_option maxRecDepth 100000
set_option maxHeartbeats 1600000
set_option linter.unusedSimpArgs false
set_option linter.unusedVariables false

theorem LR.lock {w w' : World} {b : LB} {s : Led} (h : LR w b s) {lk : L.St} (hr : RT w' b.T b.C b.R lk) (hf : Fr (S3 b.T b.C b.R) w w') : LR w' b ⟨lk, s.bal, s.un⟩ :=
  ⟨hr, h.lv.fr hf h.lv.ok.apart, h.bl, h.ul, h.tot⟩

/-- A call that takes lock k alone. -/
def acqE (s : Led) (k : Int) : Int := (L.acq (L.clear s.lk) k).2.1
def oneS (s : Led) (k : Int) : Led := if acqE s k = 0 then ⟨(L.rel (L.acq (L.clear s.lk) k).2.2 (L.acq (L.clear s.lk) k).1).2, s.bal, s.un⟩ else clr s
def balN (s : Led) (k : Int) : Int := if acqE s k = 0 then s.bal k.toNat else 0

theorem acq_zero {s : L.St} {k : Int} (h : (L.acq s k).2.1 = 0) : 0 ≤ k ∧ k < 4 := by
  unfold L.acq at h
  split at h
  · assumption
  · cases h
theorem acq_err {s : L.St} {k : Int} (h : (L.acq s k).2.1 ≠ 0) : (L.acq s k).2.2 = s := by
  unfold L.acq at h ⊢
  split at h
  · rename_i c1
    split at h
    · rename_i c2; rw [if_pos c1, if_pos c2]
    · exact absurd rfl h
  · rename_i c1; rw [if_neg c1]

theorem balance_any {w : World} {b : LB} {s : Led} (h : LR w b s) (k : Int) :
    Calls Try.prog 58 #[.pointer (some ⟨b.D, 0, none⟩), .int .i64 k] w fun e w' => e = .returned (.tuple #[.int .i64 (balN s k), .int .i64 (acqE s k)]) ∧ LR w' b (oneS s k) ∧ Fr (SL b) w w' := by
  have d0 := h.lv.d0.c
  have H := hid h
  clear h
  by_cases hE : acqE s k = 0
  · have hN : balN s k = s.bal k.toNat := by unfold balN; rw [if_pos hE]
    have hS : oneS s k = ⟨(L.rel (L.acq (L.clear s.lk) k).2.2 (L.acq (L.clear s.lk) k).1).2, s.bal, s.un⟩ := by unfold oneS; rw [if_pos hE]
    rw [hN, hS, hE]
    clear hN hS
    have HE : Hid ((L.acq (L.clear s.lk) k).2.1 = 0) := hE
    obtain ⟨k0, k4⟩ := acq_zero hE
    obtain ⟨n, rfl⟩ : ∃ n : Nat, k = (n : Int) := ⟨k.toNat, by omega⟩
    have hn4 : n < 4 := by omega
    simp only [Int.toNat_natCast]
    clear hE
    go_enter_defers Try.func58, Try.ntmps58
    go_wp2_with fail
    refine (clear_any H.out.rt).mono ?_
    rintro e w1 ⟨rfl, r1, f1⟩
    have L1 := hid (H.out.lock r1 f1)
    have F1 := hid f1
    have d0 := L1.out.lv.d0.c
    clear r1 f1
    go_wp2_with fail
    refine (acquire_any L1.out.rt (n : Int)).mono ?_
    rintro e w2 ⟨rfl, r2, f2⟩
    rw [HE.out]
    have L2 := hid (L1.out.lock r2 f2)
    have F2 := hid (F1.out.trans f2)
    have d0 := L2.out.lv.d0.c
    have d1 := L2.out.lv.d1.c
    have c := (L2.out.lv.bl n hn4).c
    simp only at c
    clear r2 f2 F1 L1
    go_wp2_with fail
    refine leaves_cons (f := 50) (args := #[.pointer (some ⟨b.T, 0, none⟩), .int .i64 (L.acq (L.clear s.lk) (n : Int)).1]) (by simp) (by simp [go_sem]) ?_
    refine (release_d L2.out.rt _ .returning).mono ?_
    rintro e u w3 ⟨rfl, rfl, r3, f3⟩
    exact ⟨_, results_tmp2 rfl _ _ _, rfl, L2.out.lock r3 f3, (F2.out.trans f3).mono (fun _ _ h => SL_of3 h)⟩
  · have hN : balN s k = 0 := by unfold balN; rw [if_neg hE]
    have hS : oneS s k = clr s := by unfold oneS; rw [if_neg hE]
    rw [hN, hS]
    clear hN hS
    have HQ := hid (acq_err (s := L.clear s.lk) (k := k) hE)
    have hEb : ((L.acq (L.clear s.lk) k).2.1 != 0) = true := by simp; exact hE
    clear hE
    go_enter_defers Try.func58, Try.ntmps58
    go_wp2_with fail
    refine (clear_any H.out.rt).mono ?_
    rintro e w1 ⟨rfl, r1, f1⟩
    have L1 := hid (H.out.lock r1 f1)
    have F1 := hid f1
    have d0 := L1.out.lv.d0.c
    clear r1 f1
    go_wp2_with fail
    refine (acquire_any L1.out.rt k).mono ?_
    rintro e w2 ⟨rfl, r2, f2⟩
    rw [show (⟨L.clear s.lk, s.bal, s.un⟩ : Led).lk = L.clear s.lk from rfl] at r2
    rw [HQ.out] at r2
    have L2 := hid (L1.out.lock r2 f2)
    have F2 := hid (F1.out.trans f2)
    clear r2 f2 F1 L1
    go_wp2_with fail
    exact ⟨_, results_tmp2 rfl _ _ _, rfl, L2.out, F2.out.mono (fun _ _ h => SL_of3 h)⟩

theorem lcheck_any {w : World} {b : LB} {s : Led} (h : LR w b s) :
    Calls Try.prog 70 #[.pointer (some ⟨b.D, 0, none⟩)] w fun e w' => e = .returned (.bool true) ∧ w' = w := by
  have H := hid h
  have d1 := h.lv.d1.c
  have d2 := h.lv.d2.c
  have d3 := h.lv.d3.c
  simp only [List.length_nil] at d2
  have hu : (s.un : Int) ≤ 99 := by have := h.ul; omega
  have hu0 : (0 : Int) ≤ (s.un : Int) := by omega
  clear h
  go_enter Try.func70, Try.ntmps70
  go_wp2_with fail
  go_loop [24] (fun i => ∃ k : Nat, k ≤ 4 ∧ i = .int .i64 k) (fun i => 4 - (intOf i).toNat)
  case atStart => exact ⟨0, by omega, rfl⟩
  case round =>
    obtain ⟨k, hk, rfl⟩ := hrel
    have hk0 : (0 : Int) ≤ (k : Int) := by omega
    by_cases hlt : k < 4
    · have hk4 : (k : Int) < 4 := by omega
      have c := (H.out.lv.bl k hlt).c
      obtain ⟨b1, b2⟩ := H.out.bl k hlt
      generalize s.bal k = v at *
      go_wp2_with fail
      exact ⟨⟨k + 1, by omega, by go_num⟩, by simp [intOf]; omega⟩
    · have hk4 : ¬ (k : Int) < 4 := by omega
      go_wp2_with (go_at_call 91; refine (audit_any H.out).mono ?_; rintro e w2 ⟨rfl, hw2⟩; obtain rfl := hw2.symm)
      go_ret
      exact ⟨rfl, rfl⟩

end Go.Proofs.Qxb6500452a
