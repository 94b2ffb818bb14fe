/- The real ledger: Split. -/
import Derived.Test.Qxb6500452aVBal
namespace Go.Proofs.Qxb6500452a
open Go Go.RowKit
set_option maxRecDepth 100000
set_option maxHeartbeats 1600000
set_option linter.unusedSimpArgs false
set_option linter.unusedVariables false

def splE (s : Led) (k p : Int) : Int := if p < 0 then 2 else acqE s k
def splS (s : Led) (k p : Int) : Led := if p < 0 then clr s else oneS s k
def splN (s : Led) (k p : Int) : Int := if p < 0 then 0 else if acqE s k = 0 then (s.bal k.toNat).tdiv p else 0

theorem ta_other (v : Value) (w : World) : (Instr.typeAssert (.iface 10 v) 20 131 true).run Try.prog w = .ok (.tuple #[.agg #[.int .i64 0, .int .i64 0], .bool false]) w := by kernel_rfl

/-- A panic that is not the layer's own is thrown on. -/
theorem catch_other (w : World) (pD pn pe : Addr) (x : Value) (older : List PanicEntry) :
    CallsD Try.prog 80 #[.pointer (some pD), .pointer (some pn), .pointer (some pe)] (.panicking ({ v := .iface 10 x, recovered := false } :: older)) w fun e' u' w' =>
      e' = .panicked [{ v := .iface 10 x, recovered := false }] ∧ u' = .panicking ({ v := .iface 10 x, recovered := true } :: older) ∧ w' = w := by
  have hta := ta_other
  refine callsD_of_wpS Try.func80 rfl fun c₀ cs hu => ?_
  apply wpS_seq
  apply wpS_region
  simp [wpOpsS, go_sem, recoverD, hu, Try.ntmps80, Exit.thenS]
  simp only [Array.replicate_succ, Array.replicate_zero, List.push_toArray, List.append_toArray, List.nil_append, List.cons_append, List.setIfInBounds_toArray, List.set_cons_zero, List.set_cons_succ]
  refine wpS_of_wp ?_
  go_wp2_with fail
  exact ⟨rfl, _, rfl, rfl, rfl, rfl⟩

def divV : Value := .iface 10 (strVal "integer divide by zero")
def divC : List PanicEntry := [{ v := divV, recovered := false }, { v := divV, recovered := true }]

/-- Leaving Split by a return. -/
theorem leaves_s {fn : Func} {tmps : Array Value} {R : Ending → World → Prop} {w : World} {b : LB} {s : L.St} {pn pe : Nat} {n e : Int} (hs : List Int)
    (hres : fn.results = #[.cell 6 3, .cell 7 34]) (h4 : tmps.getD 6 undef = .pointer (some ⟨pn, 0, none⟩)) (h5 : tmps.getD 7 undef = .pointer (some ⟨pe, 0, none⟩))
    (hr : RT w b.T b.C b.R s) (hn : At w pn 0 (.int .i64 n)) (he : At w pe 0 (.int .i64 e)) (on : ¬ S3 b.T b.C b.R pn) (oe : ¬ S3 b.T b.C b.R pe)
    (hR : ∀ w', RT w' b.T b.C b.R (relAll hs s) → Fr (S3 b.T b.C b.R) w w' → R (.returned (.tuple #[.int .i64 n, .int .i64 e])) w') :
    Leaves Try.prog fn tmps R (hs.map (relD b.T) ++ [catD b.D pn pe]) .returning w := by
  refine leaves_rels _ .returning (by simp) rfl hs s w hr ?_
  intro w1 hr1 f1
  refine leaves_cons (f := 80) (args := #[.pointer (some ⟨b.D, 0, none⟩), .pointer (some ⟨pn, 0, none⟩), .pointer (some ⟨pe, 0, none⟩)]) (by simp) (by simp [go_sem]) ?_
  refine (catch_idle _ _ _ w1).mono ?_
  rintro e1 u w3 ⟨rfl, rfl, rfl⟩
  have c4 : tmps[6]?.getD undef = .pointer (some ⟨pn, 0, none⟩) := by simpa using h4
  have c5 : tmps[7]?.getD undef = .pointer (some ⟨pe, 0, none⟩) := by simpa using h5
  have q4 := (hn.fr f1 on).c
  have q5 := (he.fr f1 oe).c
  exact ⟨.tuple #[.int .i64 n, .int .i64 e], by simp [results, hres, go_sem, c4, c5, q4, q5], hR _ hr1 f1⟩

/-- Leaving Split by the runtime's own panic. -/
theorem leaves_div {fn : Func} {tmps : Array Value} {R : Ending → World → Prop} {w : World} {b : LB} {s : L.St} {pn pe : Nat} (hs : List Int) (hr : RT w b.T b.C b.R s)
    (hR : ∀ w', RT w' b.T b.C b.R (relAll hs s) → Fr (S3 b.T b.C b.R) w w' → R (.panicked divC) w') :
    Leaves Try.prog fn tmps R (hs.map (relD b.T) ++ [catD b.D pn pe]) (.panicking [{ v := divV, recovered := false }]) w := by
  refine leaves_rels _ _ (by simp) rfl hs s w hr ?_
  intro w1 hr1 f1
  refine leaves_cons (f := 80) (args := #[.pointer (some ⟨b.D, 0, none⟩), .pointer (some ⟨pn, 0, none⟩), .pointer (some ⟨pe, 0, none⟩)]) (by simp) (by simp [go_sem]) ?_
  refine (catch_other w1 _ _ _ _ []).mono ?_
  rintro e1 u w3 ⟨rfl, rfl, rfl⟩
  exact hR _ hr1 f1

theorem split_zero {w : World} {b : LB} {s : Led} (h : LR w b s) {k : Int} (hE : acqE s k = 0) :
    Calls Try.prog 60 #[.pointer (some ⟨b.D, 0, none⟩), .int .i64 k, .int .i64 0] w fun e w' => e = .panicked divC ∧ LR w' b (oneS s k) ∧ Fr (SL b) w w' := by
  have d0 := h.lv.d0.c
  have H := hid h
  have hD := h.lv.d0.lt
  clear h
  have hS : oneS s k = ⟨(L.rel (L.acq (L.clear s.lk) k).2.2 (L.acq (L.clear s.lk) k).1).2, s.bal, s.un⟩ := by unfold oneS; rw [if_pos hE]
  rw [hS]
  clear hS
  have HE : Hid ((L.acq (L.clear s.lk) k).2.1 = 0) := hE
  obtain ⟨k0, k4⟩ := acq_zero hE
  obtain ⟨n, rfl⟩ : ∃ n : Nat, k = (n : Int) := ⟨k.toNat, by omega⟩
  have hn4 : n < 4 := by omega
  clear hE
  have fa : Fr (fun _ => False) w ((w.alloc (.cells #[.int .i64 0] 3)).alloc (.cells #[.int .i64 0] 34)) := ((Fr.refl _ _).alloc _).alloc _
  have FA := hid fa
  have A4 := hid ((At.new w #[.int .i64 0] 3 (o := 0) rfl).alloc (.cells #[.int .i64 0] 34))
  have A5 : Hid (At ((w.alloc (.cells #[.int .i64 0] 3)).alloc (.cells #[.int .i64 0] 34)) (w.heap.size + 1) 0 (.int .i64 0)) := by
    have := At.new (w.alloc (.cells #[.int .i64 0] 3)) #[.int .i64 0] 34 (o := 0) rfl
    simp only [World.size_alloc] at this
    exact this
  clear fa
  go_enter_defers Try.func60, Try.ntmps60
  go_wp2_with fail
  refine (clear_any (H.out.rt.fr FA.out (fun h => h) (fun h => h) (fun h => h))).mono ?_
  rintro e w1 ⟨rfl, r1, f1⟩
  have nS : ∀ i, w.heap.size ≤ i → ¬ S3 b.T b.C b.R i := fun i hi c => by have := H.out.lt i (SL_of3 c); omega
  have L1 := hid ((H.out.fr FA.out (fun _ _ h => h)).lock r1 f1)
  have A5' := hid (A5.out.fr f1 (nS _ (by omega)))
  have A4' := hid (A4.out.fr f1 (nS _ (by omega)))
  have F1 : Hid (Fr (SL b) w w1) := (FA.out.mono (fun _ _ h => h.elim)).trans (f1.mono (fun _ _ h => SL_of3 h))
  have NS := hid nS
  have d0 := L1.out.lv.d0.c
  clear r1 f1 A4 A5 nS FA
  go_wp2_with fail
  refine (acquire_any L1.out.rt (n : Int)).mono ?_
  rintro e w2 ⟨rfl, r2, f2⟩
  rw [HE.out]
  have L2 := hid (L1.out.lock r2 f2)
  have A5 := hid (A5'.out.fr f2 (NS.out _ (by omega)))
  have A4 := hid (A4'.out.fr f2 (NS.out _ (by omega)))
  have F2 : Hid (Fr (SL b) w w2) := F1.out.trans (f2.mono (fun _ _ h => SL_of3 h))
  have d0 := L2.out.lv.d0.c
  have d1 := L2.out.lv.d1.c
  have c := (L2.out.lv.bl n hn4).c
  have z5 := A5.out.c
  have x5 := A5.out.f
  have z4 := A4.out.c
  have x4 := A4.out.f
  simp only at c
  have hDn : b.D ≠ w.heap.size + 1 := by omega
  have hBn : b.B ≠ w.heap.size + 1 := fun e => by have := H.out.lt b.B (.inl (.inr (.inl rfl))); omega
  clear r2 f2 F1 L1 A4' A5'
  go_wp2_with fail
  refine leaves_div [(L.acq (L.clear s.lk) (n : Int)).1] (L2.out.rt.fr ((Fr.refl (fun i => i = w.heap.size + 1) w2).setCell (p := ⟨w.heap.size + 1, 0, none⟩) (fun _ => rfl) _) (fun c => NS.out _ (by omega) (.inl c.symm)) (fun c => NS.out _ (by omega) (.inr (.inl c.symm))) (fun c => NS.out _ (by omega) (.inr (.inr c.symm)))) ?_
  intro w9 r9 f9
  have hf : Fr (fun i => i = w.heap.size + 1) w2 (w2.setCell ⟨w.heap.size + 1, 0, none⟩ (.int .i64 0)) := (Fr.refl (fun i => i = w.heap.size + 1) w2).setCell (p := ⟨w.heap.size + 1, 0, none⟩) (fun _ => rfl) _
  have L3 := L2.out.fr hf (fun i hi e => by have := H.out.lt i hi; omega)
  exact ⟨rfl, L3.lock r9 f9, (F2.out.setN (by omega) _ _).trans (f9.mono (fun _ _ h => SL_of3 h))⟩

theorem LR.set1 {W : World} {b : LB} {s : Led} (h : LR W b s) {q : Nat} (hq : ¬ SL b q) (v : Value) : LR (W.setCell ⟨q, 0, none⟩ v) b s :=
  h.fr ((Fr.refl (fun i => i = q) W).setCell (p := ⟨q, 0, none⟩) (fun _ => rfl) _) (fun i hi e => hq (e ▸ hi))

theorem split_any {w : World} {b : LB} {s : Led} (h : LR w b s) (k p : Int) (hp : ¬ (p = 0 ∧ acqE s k = 0)) :
    Calls Try.prog 60 #[.pointer (some ⟨b.D, 0, none⟩), .int .i64 k, .int .i64 p] w fun e w' => e = .returned (.tuple #[.int .i64 (splN s k p), .int .i64 (splE s k p)]) ∧ LR w' b (splS s k p) ∧ Fr (SL b) w w' := by
  have d0 := h.lv.d0.c
  have H := hid h
  have hD := h.lv.d0.lt
  clear h
  have fa : Fr (fun _ => False) w ((w.alloc (.cells #[.int .i64 0] 3)).alloc (.cells #[.int .i64 0] 34)) := ((Fr.refl _ _).alloc _).alloc _
  have FA := hid fa
  have A4 := hid ((At.new w #[.int .i64 0] 3 (o := 0) rfl).alloc (.cells #[.int .i64 0] 34))
  have A5 : Hid (At ((w.alloc (.cells #[.int .i64 0] 3)).alloc (.cells #[.int .i64 0] 34)) (w.heap.size + 1) 0 (.int .i64 0)) := by
    have := At.new (w.alloc (.cells #[.int .i64 0] 3)) #[.int .i64 0] 34 (o := 0) rfl
    simp only [World.size_alloc] at this
    exact this
  clear fa
  by_cases hneg : p < 0
  · have hN : splN s k p = 0 ∧ splE s k p = 2 ∧ splS s k p = clr s := by simp [splN, splE, splS, hneg]
    rw [hN.1, hN.2.1, hN.2.2]
    clear hN hp
    go_enter_defers Try.func60, Try.ntmps60
    go_wp2_with fail
    refine (clear_any (H.out.rt.fr FA.out (fun h => h) (fun h => h) (fun h => h))).mono ?_
    rintro e w1 ⟨rfl, r1, f1⟩
    have nS : ∀ i, w.heap.size ≤ i → ¬ S3 b.T b.C b.R i := fun i hi c => by have := H.out.lt i (SL_of3 c); omega
    have L1 := hid ((H.out.fr FA.out (fun _ _ h => h)).lock r1 f1)
    have A5' := hid (A5.out.fr f1 (nS _ (by omega)))
    have A4' := hid (A4.out.fr f1 (nS _ (by omega)))
    have F1 : Hid (Fr (SL b) w w1) := (FA.out.mono (fun _ _ h => h.elim)).trans (f1.mono (fun _ _ h => SL_of3 h))
    have NS := hid nS
    have d0 := L1.out.lv.d0.c
    have z5 := A5'.out.c
    have x5 := A5'.out.f
    have z4 := A4'.out.c
    have x4 := A4'.out.f
    have hne : w.heap.size ≠ w.heap.size + 1 := by omega
    clear r1 f1 A4 A5 nS FA
    go_wp2_with fail
    have on : ¬ SL b w.heap.size := fun c => by have := H.out.lt _ c; omega
    have oe : ¬ SL b (w.heap.size + 1) := fun c => by have := H.out.lt _ c; omega
    have LL := (L1.out.set1 on (.int .i64 0)).set1 oe (.int .i64 2)
    have an := (A4'.out.same (.int .i64 0)).other (b' := w.heap.size + 1) (o' := 0) (by omega) (.int .i64 2)
    have ae := (A5'.out.other (b' := w.heap.size) (o' := 0) (by omega) (.int .i64 0)).same (.int .i64 2)
    have ff := (F1.out.setN (Nat.le_refl _) 0 (.int .i64 0)).setN (b := w.heap.size + 1) (by omega) 0 (.int .i64 2)
    refine leaves_s (n := 0) (e := 2) [] Try.results60 rfl rfl LL.rt an ae (NS.out _ (Nat.le_refl _)) (NS.out _ (by omega)) ?_
    intro w9 r9 f9
    exact ⟨rfl, LL.lock r9 f9, ff.trans (f9.mono (fun _ _ h => SL_of3 h))⟩
  have hN0 : splE s k p = acqE s k ∧ splS s k p = oneS s k := by simp [splE, splS, hneg]
  rw [hN0.1, hN0.2]
  clear hN0
  by_cases hE : acqE s k = 0
  · have hp0 : ¬ p = 0 := fun e => hp ⟨e, hE⟩
    have hN : splN s k p = (s.bal k.toNat).tdiv p := by unfold splN; rw [if_neg hneg, if_pos hE]
    have hS : oneS s k = ⟨(L.rel (L.acq (L.clear s.lk) k).2.2 (L.acq (L.clear s.lk) k).1).2, s.bal, s.un⟩ := by unfold oneS; rw [if_pos hE]
    rw [hN, hS, hE]
    clear hN hS hp
    have HE : Hid ((L.acq (L.clear s.lk) k).2.1 = 0) := hE
    obtain ⟨k0, k4⟩ := acq_zero hE
    obtain ⟨n, rfl⟩ : ∃ n : Nat, k = (n : Int) := ⟨k.toNat, by omega⟩
    have hn4 : n < 4 := by omega
    simp only [Int.toNat_natCast]
    obtain ⟨v0, v1⟩ := H.out.bl n hn4
    have hq0 : 0 ≤ (s.bal n).tdiv p := Int.tdiv_nonneg v0 (by omega)
    have hq1 : (s.bal n).tdiv p ≤ 250 := Int.le_trans (Int.tdiv_le_self _ v0) v1
    have hw : IntKind.i64.wrap ((s.bal n).tdiv p) = (s.bal n).tdiv p := Go.IntWalk.i64_in _ (by omega)
    clear hE
    go_enter_defers Try.func60, Try.ntmps60
    go_wp2_with fail
    refine (clear_any (H.out.rt.fr FA.out (fun h => h) (fun h => h) (fun h => h))).mono ?_
    rintro e w1 ⟨rfl, r1, f1⟩
    have nS : ∀ i, w.heap.size ≤ i → ¬ S3 b.T b.C b.R i := fun i hi c => by have := H.out.lt i (SL_of3 c); omega
    have L1 := hid ((H.out.fr FA.out (fun _ _ h => h)).lock r1 f1)
    have A5' := hid (A5.out.fr f1 (nS _ (by omega)))
    have A4' := hid (A4.out.fr f1 (nS _ (by omega)))
    have F1 : Hid (Fr (SL b) w w1) := (FA.out.mono (fun _ _ h => h.elim)).trans (f1.mono (fun _ _ h => SL_of3 h))
    have NS := hid nS
    have d0 := L1.out.lv.d0.c
    have z5 := A5'.out.c
    have x5 := A5'.out.f
    have z4 := A4'.out.c
    have x4 := A4'.out.f
    have hne : w.heap.size ≠ w.heap.size + 1 := by omega
    clear r1 f1 A4 A5 nS FA
    go_wp2_with fail
    refine (acquire_any L1.out.rt (n : Int)).mono ?_
    rintro e w2 ⟨rfl, r2, f2⟩
    rw [HE.out]
    have L2 := hid (L1.out.lock r2 f2)
    have A5 := hid (A5'.out.fr f2 (NS.out _ (by omega)))
    have A4 := hid (A4'.out.fr f2 (NS.out _ (by omega)))
    have F2 : Hid (Fr (SL b) w w2) := F1.out.trans (f2.mono (fun _ _ h => SL_of3 h))
    have d0 := L2.out.lv.d0.c
    have d1 := L2.out.lv.d1.c
    have z5 := A5.out.c
    have x5 := A5.out.f
    have z4 := A4.out.c
    have x4 := A4.out.f
    have hDn : b.D ≠ w.heap.size + 1 := by omega
    have hBn : b.B ≠ w.heap.size + 1 := fun e => by have := H.out.lt b.B (.inl (.inr (.inl rfl))); omega
    clear r2 f2 F1 L1 A4' A5'
    have c := (L2.out.lv.bl n hn4).c
    simp only at c
    go_wp2_with fail
    have on : ¬ SL b w.heap.size := fun c => by have := H.out.lt _ c; omega
    have oe : ¬ SL b (w.heap.size + 1) := fun c => by have := H.out.lt _ c; omega
    have LL := ((L2.out.set1 oe (.int .i64 0)).set1 on (.int .i64 ((s.bal n).tdiv p))).set1 oe (.int .i64 0)
    have an := ((A4.out.other (b' := w.heap.size + 1) (o' := 0) (by omega) (.int .i64 0)).same (.int .i64 ((s.bal n).tdiv p))).other (b' := w.heap.size + 1) (o' := 0) (by omega) (.int .i64 0)
    have ae := ((A5.out.same (.int .i64 0)).other (b' := w.heap.size) (o' := 0) (by omega) (.int .i64 ((s.bal n).tdiv p))).same (.int .i64 0)
    have ff := ((F2.out.setN (b := w.heap.size + 1) (by omega) 0 (.int .i64 0)).setN (Nat.le_refl _) 0 (.int .i64 ((s.bal n).tdiv p))).setN (b := w.heap.size + 1) (by omega) 0 (.int .i64 0)
    refine leaves_s (n := ((s.bal n).tdiv p)) (e := 0) [(L.acq (L.clear s.lk) (n : Int)).1] Try.results60 rfl rfl LL.rt an ae (NS.out _ (Nat.le_refl _)) (NS.out _ (by omega)) ?_
    intro w9 r9 f9
    exact ⟨rfl, LL.lock r9 f9, ff.trans (f9.mono (fun _ _ h => SL_of3 h))⟩
  · have hN : splN s k p = 0 := by unfold splN; rw [if_neg hneg, if_neg hE]
    have hS : oneS s k = clr s := by unfold oneS; rw [if_neg hE]
    rw [hN, hS]
    clear hN hS hp
    have HQ := hid (acq_err (s := L.clear s.lk) (k := k) hE)
    have hEb : ((L.acq (L.clear s.lk) k).2.1 != 0) = true := by simp; exact hE
    clear hE
    go_enter_defers Try.func60, Try.ntmps60
    go_wp2_with fail
    refine (clear_any (H.out.rt.fr FA.out (fun h => h) (fun h => h) (fun h => h))).mono ?_
    rintro e w1 ⟨rfl, r1, f1⟩
    have nS : ∀ i, w.heap.size ≤ i → ¬ S3 b.T b.C b.R i := fun i hi c => by have := H.out.lt i (SL_of3 c); omega
    have L1 := hid ((H.out.fr FA.out (fun _ _ h => h)).lock r1 f1)
    have A5' := hid (A5.out.fr f1 (nS _ (by omega)))
    have A4' := hid (A4.out.fr f1 (nS _ (by omega)))
    have F1 : Hid (Fr (SL b) w w1) := (FA.out.mono (fun _ _ h => h.elim)).trans (f1.mono (fun _ _ h => SL_of3 h))
    have NS := hid nS
    have d0 := L1.out.lv.d0.c
    have z5 := A5'.out.c
    have x5 := A5'.out.f
    have z4 := A4'.out.c
    have x4 := A4'.out.f
    have hne : w.heap.size ≠ w.heap.size + 1 := by omega
    clear r1 f1 A4 A5 nS FA
    go_wp2_with fail
    refine (acquire_any L1.out.rt k).mono ?_
    rintro e w2 ⟨rfl, r2, f2⟩
    rw [show (⟨L.clear s.lk, s.bal, s.un⟩ : Led).lk = L.clear s.lk from rfl, HQ.out] at r2
    have L2 := hid (L1.out.lock r2 f2)
    have A5 := hid (A5'.out.fr f2 (NS.out _ (by omega)))
    have A4 := hid (A4'.out.fr f2 (NS.out _ (by omega)))
    have F2 : Hid (Fr (SL b) w w2) := F1.out.trans (f2.mono (fun _ _ h => SL_of3 h))
    have d0 := L2.out.lv.d0.c
    have d1 := L2.out.lv.d1.c
    have z5 := A5.out.c
    have x5 := A5.out.f
    have z4 := A4.out.c
    have x4 := A4.out.f
    have hDn : b.D ≠ w.heap.size + 1 := by omega
    have hBn : b.B ≠ w.heap.size + 1 := fun e => by have := H.out.lt b.B (.inl (.inr (.inl rfl))); omega
    clear r2 f2 F1 L1 A4' A5'
    go_wp2_with fail
    have on : ¬ SL b w.heap.size := fun c => by have := H.out.lt _ c; omega
    have oe : ¬ SL b (w.heap.size + 1) := fun c => by have := H.out.lt _ c; omega
    have LL := ((L2.out.set1 oe (.int .i64 (L.acq (L.clear s.lk) k).2.1)).set1 on (.int .i64 0)).set1 oe (.int .i64 (L.acq (L.clear s.lk) k).2.1)
    have an := ((A4.out.other (b' := w.heap.size + 1) (o' := 0) (by omega) (.int .i64 (L.acq (L.clear s.lk) k).2.1)).same (.int .i64 0)).other (b' := w.heap.size + 1) (o' := 0) (by omega) (.int .i64 (L.acq (L.clear s.lk) k).2.1)
    have ae := ((A5.out.same (.int .i64 (L.acq (L.clear s.lk) k).2.1)).other (b' := w.heap.size) (o' := 0) (by omega) (.int .i64 0)).same (.int .i64 (L.acq (L.clear s.lk) k).2.1)
    have ff := ((F2.out.setN (b := w.heap.size + 1) (by omega) 0 (.int .i64 (L.acq (L.clear s.lk) k).2.1)).setN (Nat.le_refl _) 0 (.int .i64 0)).setN (b := w.heap.size + 1) (by omega) 0 (.int .i64 (L.acq (L.clear s.lk) k).2.1)
    refine leaves_s (n := 0) (e := (L.acq (L.clear s.lk) k).2.1) [] Try.results60 rfl rfl LL.rt an ae (NS.out _ (Nat.le_refl _)) (NS.out _ (by omega)) ?_
    intro w9 r9 f9
    exact ⟨rfl, LL.lock r9 f9, ff.trans (f9.mono (fun _ _ h => SL_of3 h))⟩

end Go.Proofs.Qxb6500452a
