import Derived.Test.Qxb6500452aLUndo
namespace Go.Proofs.Qxb6500452a
open Go Go.RowKit
set_option maxRecDepth 100000
set_option maxHeartbeats 800000
set_option linter.unusedSimpArgs false

theorem S3_not {w : World} {bT bC bR : Nat} {s : L.St} (h : RT w bT bC bR s) {i : Nat} (hi : w.heap.size ≤ i) : ¬ S3 bT bC bR i := by
  have := h.lt
  unfold S3
  omega

/-- The four boxes of AcquirePair behind a call that touched the table alone: their numbers under names. -/
theorem pair_cells {w w1 : World} {bT bC bR : Nat} {s : L.St} (h : RT w bT bC bR s) {v : Value}
    (hf : Fr (S3 bT bC bR) ((((w.alloc (.cells #[v] 28)).alloc (.cells #[.int .i64 0] 3)).alloc (.cells #[.int .i64 0] 3)).alloc (.cells #[.int .i64 0] 34)) w1) :
    At w1 w.heap.size 0 v ∧ At w1 (w.heap.size + 1) 0 (.int .i64 0) ∧ At w1 (w.heap.size + 1 + 1) 0 (.int .i64 0) ∧ At w1 (w.heap.size + 1 + 1 + 1) 0 (.int .i64 0) ∧
    Fr (S3 bT bC bR) w w1 ∧
    (w.heap.size < w1.heap.size ∧ w.heap.size + 1 < w1.heap.size ∧ w.heap.size + 1 + 1 < w1.heap.size ∧ w.heap.size + 1 + 1 + 1 < w1.heap.size) ∧
    (w.heap.size ≤ w.heap.size ∧ w.heap.size ≤ w.heap.size + 1 ∧ w.heap.size ≤ w.heap.size + 1 + 1 ∧ w.heap.size ≤ w.heap.size + 1 + 1 + 1) ∧
    (¬ w.heap.size = w.heap.size + 1 + 1 + 1 ∧ ¬ w.heap.size + 1 = w.heap.size + 1 + 1 + 1 ∧ ¬ w.heap.size + 1 + 1 = w.heap.size + 1 + 1 + 1 ∧ ¬ w.heap.size + 1 = w.heap.size + 1 + 1 ∧ ¬ w.heap.size = w.heap.size + 1 ∧ ¬ w.heap.size = w.heap.size + 1 + 1) := by
  have e1 := At.new w #[v] 28 (o := 0) rfl
  have e2 := At.new (w.alloc (.cells #[v] 28)) #[.int .i64 0] 3 (o := 0) rfl
  have e3 := At.new ((w.alloc (.cells #[v] 28)).alloc (.cells #[.int .i64 0] 3)) #[.int .i64 0] 3 (o := 0) rfl
  have e4 := At.new (((w.alloc (.cells #[v] 28)).alloc (.cells #[.int .i64 0] 3)).alloc (.cells #[.int .i64 0] 3)) #[.int .i64 0] 34 (o := 0) rfl
  simp only [World.size_alloc] at e2 e3 e4
  have hs := hf.size
  simp only [World.size_alloc] at hs
  exact ⟨(((e1.alloc _).alloc _).alloc _).fr hf (S3_not h (Nat.le_refl _)), ((e2.alloc _).alloc _).fr hf (S3_not h (by omega)), (e3.alloc _).fr hf (S3_not h (by omega)), e4.fr hf (S3_not h (by omega)),
    ((((Fr.refl _ _).alloc _).alloc _).alloc _).alloc _ |>.trans hf, by omega, by omega, by omega⟩


/-- The boxes at the door of AcquirePair: four stores behind the last call. -/
theorem door_cells {w : World} {bT bC bR : Nat} {s : L.St} (h : RT w bT bC bR s) {pe pt ph pa pb : Nat} {v0 v1 v2 v3 v4 : Value} (e1 va vb e2 : Value)
    (r0 : At w pt 0 v0) (r1 : At w pa 0 v1) (r2 : At w pb 0 v2) (r3 : At w pe 0 v3) (r4 : At w ph 0 v4)
    (k1 : pt ≠ pe) (k2 : pa ≠ pe) (k3 : pb ≠ pe) (k4 : pa ≠ pb) (k5 : pt ≠ pa) (k6 : pt ≠ pb) (k7 : ph ≠ pe) (k8 : ph ≠ pa) (k9 : ph ≠ pb)
    (t1 : ¬ S3 bT bC bR pe) (t2 : ¬ S3 bT bC bR pa) (t3 : ¬ S3 bT bC bR pb) :
    RT ((((w.setCell ⟨pe, 0, none⟩ e1).setCell ⟨pa, 0, none⟩ va).setCell ⟨pb, 0, none⟩ vb).setCell ⟨pe, 0, none⟩ e2).drew bT bC bR s ∧
    At ((((w.setCell ⟨pe, 0, none⟩ e1).setCell ⟨pa, 0, none⟩ va).setCell ⟨pb, 0, none⟩ vb).setCell ⟨pe, 0, none⟩ e2).drew pe 0 e2 ∧
    At ((((w.setCell ⟨pe, 0, none⟩ e1).setCell ⟨pa, 0, none⟩ va).setCell ⟨pb, 0, none⟩ vb).setCell ⟨pe, 0, none⟩ e2).drew pt 0 v0 ∧
    At ((((w.setCell ⟨pe, 0, none⟩ e1).setCell ⟨pa, 0, none⟩ va).setCell ⟨pb, 0, none⟩ vb).setCell ⟨pe, 0, none⟩ e2).drew ph 0 v4 ∧
    At ((((w.setCell ⟨pe, 0, none⟩ e1).setCell ⟨pa, 0, none⟩ va).setCell ⟨pb, 0, none⟩ vb).setCell ⟨pe, 0, none⟩ e2).drew pa 0 va ∧
    At ((((w.setCell ⟨pe, 0, none⟩ e1).setCell ⟨pa, 0, none⟩ va).setCell ⟨pb, 0, none⟩ vb).setCell ⟨pe, 0, none⟩ e2).drew pb 0 vb := by
  have u1 : pe ≠ bT ∧ pe ≠ bC ∧ pe ≠ bR := ⟨fun e => t1 (.inl e), fun e => t1 (.inr (.inl e)), fun e => t1 (.inr (.inr e))⟩
  have u2 : pa ≠ bT ∧ pa ≠ bC ∧ pa ≠ bR := ⟨fun e => t2 (.inl e), fun e => t2 (.inr (.inl e)), fun e => t2 (.inr (.inr e))⟩
  have u3 : pb ≠ bT ∧ pb ≠ bC ∧ pb ≠ bR := ⟨fun e => t3 (.inl e), fun e => t3 (.inr (.inl e)), fun e => t3 (.inr (.inr e))⟩
  refine ⟨((((h.set 0 _ u1.1 u1.2.1 u1.2.2).set 0 _ u2.1 u2.2.1 u2.2.2).set 0 _ u3.1 u3.2.1 u3.2.2).set 0 _ u1.1 u1.2.1 u1.2.2).drew, ?_, ?_, ?_, ?_, ?_⟩
  · exact ((((r3.same _).other (fun e _ => k2 e) _).other (fun e _ => k3 e) _).same _).drew
  · exact ((((r0.other (fun e _ => k1 e.symm) _).other (fun e _ => k5 e.symm) _).other (fun e _ => k6 e.symm) _).other (fun e _ => k1 e.symm) _).drew
  · exact ((((r4.other (fun e _ => k7 e.symm) _).other (fun e _ => k8 e.symm) _).other (fun e _ => k9 e.symm) _).other (fun e _ => k7 e.symm) _).drew
  · exact ((((r1.other (fun e _ => k2 e.symm) _).same _).other (fun e _ => k4 e.symm) _).other (fun e _ => k2 e.symm) _).drew
  · exact ((((r2.other (fun e _ => k3 e.symm) _).other (fun e _ => k4 e) _).same _).other (fun e _ => k3 e.symm) _).drew

theorem pair_lt {w : World} {bT bC bR : Nat} {s : L.St} (h : RT w bT bC bR s) (a b : Int) (ha : 0 ≤ a ∧ a < 4) (hb : 0 ≤ b ∧ b < 4) (hab : a < b) :
    Calls Try.prog 82 #[.pointer (some ⟨bT, 0, none⟩), .int .i64 a, .int .i64 b] w fun e w' =>
      e = .returned (.tuple #[.int .i64 (L.pair s a b).1, .int .i64 (L.pair s a b).2.1, .int .i64 (L.pair s a b).2.2.1]) ∧
      RT w' bT bC bR (L.pair s a b).2.2.2 ∧ Fr (S3 bT bC bR) w w' := by
  have ga : goodB a = true := by simp [goodB]; omega
  have gb : goodB b = true := by simp [goodB]; omega
  have hne : (a == b) = false := beq_eq_false_iff_ne.2 (by omega)
  have H := hid h
  have hlt := h.lt
  have hA := acquire_any ((((h.alloc (.cells #[.pointer (some ⟨bT, 0, none⟩)] 28)).alloc (.cells #[.int .i64 0] 3)).alloc (.cells #[.int .i64 0] 3)).alloc (.cells #[.int .i64 0] 34)) a
  have hmf : ∀ (fn : Fn) (first cap : Array Value) (w : World), (Instr.makeFunc fn first cap).run Try.prog w = .ok (.func fn first cap) w := fun _ _ _ _ => rfl
  have elo : L.lo a b = a := by simp [L.lo]; omega
  have ehi : L.hi a b = b := by simp [L.hi]; omega
  have hb0 : a ≠ b := by omega
  by_cases ho : s.op a.toNat = true
  · have e1 : L.acq s a = (0, 4, s) := by unfold L.acq; rw [if_pos ha, if_pos ho]
    have HF : Hid (L.pair s a b = (0, 0, 4, s)) := by unfold Hid L.pair; rw [if_pos ha, if_pos hb, if_neg hb0, elo, if_pos ho]
    rw [e1] at hA
    have HA := hid hA
    clear h hA elo ehi e1 ho
    go_enter_defers Try.func82, Try.ntmps82
    go_wp2_with (go_at_call 73; refine (good_any _ _).mono ?_; rintro e w' ⟨rfl, rfl⟩)
    refine HA.out.mono ?_
    rintro e w1 ⟨rfl, hr, hf⟩
    obtain ⟨q0, q1, q2, q3, hfw, ⟨l0, l1, l2, l3⟩, ⟨_, m1, m2, m3⟩, ⟨n0, n1, n2, n12, n01, n02⟩⟩ := pair_cells H.out hf
    have HR := hid hr
    have HW := hid hfw
    clear hr HA hf hfw
    generalize w.heap.size + 1 + 1 + 1 = pe at *
    generalize w.heap.size + 1 + 1 = pb at *
    generalize w.heap.size + 1 = pa at *
    generalize hpt : w.heap.size = pt at *
    have HP := hid hpt
    clear hpt
    have c0 := q0.c
    have c1 := q1.c
    have c2 := q2.c
    have c3 := q3.c
    have g1 := q1.f
    have g2 := q2.f
    have g3 := q3.f
    go_wp2_with fail
    go_region
    go_wp2_with fail
    refine ⟨.tuple #[.int .i64 0, .int .i64 0, .int .i64 4], (by simp [results, Try.results82, go_sem, *]), ?_⟩
    rw [HF.out]
    refine ⟨rfl, ?_, ?_⟩
    · exact (((((HR.out.set 0 _ (by omega) (by omega) (by omega)).set 0 _ (by omega) (by omega) (by omega)).set 0 _ (by omega) (by omega) (by omega)).set 0 _ (by omega) (by omega) (by omega)).alloc _).drew
    · have hpt := HP.out
      exact (((((HW.out.setCell (fun h => by simp only at h; omega) _).setCell (fun h => by simp only at h; omega) _).setCell (fun h => by simp only at h; omega) _).setCell (fun h => by simp only at h; omega) _).alloc _).drew
  · have ho' : s.op a.toNat = false := by simpa using ho
    have e1 : L.acq s a = (a + 4 * (s.gen a.toNat : Int), 0, L.take s a.toNat) := by unfold L.acq; rw [if_pos ha, if_neg ho]
    rw [e1] at hA
    have HA := hid hA
    have hop : (L.take s a.toNat).op b.toNat = s.op b.toNat := by simp [L.take, L.updB]; omega
    have hgn : (L.take s a.toNat).gen b.toNat = s.gen b.toNat := rfl
    by_cases ho2 : s.op b.toNat = true
    · have HF : Hid (L.pair s a b = (0, 0, 4, L.give (L.take s a.toNat) a.toNat)) := by unfold Hid L.pair; rw [if_pos ha, if_pos hb, if_neg hb0, elo, ehi, if_neg ho, if_pos ho2]
      have e2 : Hid (L.acq (L.take s a.toNat) b = (0, 4, L.take s a.toNat)) := by unfold Hid L.acq; rw [if_pos hb, hop, if_pos ho2]
      have e3 : Hid (L.rel (L.take s a.toNat) (a + 4 * (s.gen a.toNat : Int)) = (0, L.give (L.take s a.toNat) a.toNat)) := by
        have hg := H.out.ok.gen a.toNat (by omega)
        have hm : ((a + 4 * (s.gen a.toNat : Int)) % 4).toNat = a.toNat := by omega
        unfold Hid L.rel
        rw [if_pos (by omega), hm, if_pos (by rw [L.hdl_take_same]; omega)]
      clear h hA elo ehi e1 ho ho' hop hgn ho2
      generalize L.take s a.toNat = s1 at *
      generalize a + 4 * (s.gen a.toNat : Int) = hl at *
      go_enter_defers Try.func82, Try.ntmps82
      go_wp2_with (go_at_call 73; refine (good_any _ _).mono ?_; rintro e w' ⟨rfl, rfl⟩)
      refine HA.out.mono ?_
      rintro e w1 ⟨rfl, hr, hf⟩
      obtain ⟨q0, q1, q2, q3, hfw, ⟨l0, l1, l2, l3⟩, ⟨_, m1, m2, m3⟩, ⟨n0, n1, n2, n12, n01, n02⟩⟩ := pair_cells H.out hf
      have HR := hid hr
      have HW := hid hfw
      clear hr HA hf hfw
      generalize w.heap.size + 1 + 1 + 1 = pe at *
      generalize w.heap.size + 1 + 1 = pb at *
      generalize w.heap.size + 1 = pa at *
      generalize hpt : w.heap.size = pt at *
      have HP := hid hpt
      clear hpt
      have c0 := q0.c
      have c1 := q1.c
      have c2 := q2.c
      have c3 := q3.c
      have g1 := q1.f
      have g2 := q2.f
      have g3 := q3.f
      go_wp2_with fail
      have hB := acquire_any ((HR.out.set (b := pe) 0 (.int .i64 0) (by omega) (by omega) (by omega)).alloc (.cells #[.int .i64 hl] 3)) b
      rw [e2.out] at hB
      refine hB.mono ?_
      clear hB
      rintro e w2 ⟨rfl, hr2, hf2⟩
      have nS : ∀ i, pt ≤ i → ¬ S3 bT bC bR i := fun i hi => by unfold S3; omega
      have r0 := ((q0.other (fun e _ => n0 e.symm) (.int .i64 0)).alloc (.cells #[.int .i64 hl] 3)).fr hf2 (nS _ (by omega))
      have r1 := ((q1.other (fun e _ => n1 e.symm) (.int .i64 0)).alloc (.cells #[.int .i64 hl] 3)).fr hf2 (nS _ (by omega))
      have r2 := ((q2.other (fun e _ => n2 e.symm) (.int .i64 0)).alloc (.cells #[.int .i64 hl] 3)).fr hf2 (nS _ (by omega))
      have r3 := ((q3.same (.int .i64 0)).alloc (.cells #[.int .i64 hl] 3)).fr hf2 (nS _ (by omega))
      have r4 := (At.new (w1.setCell ⟨pe, 0, none⟩ (.int .i64 0)) #[.int .i64 hl] 3 (o := 0) rfl).fr hf2 (nS _ (by simp; omega))
      simp only [World.size_setCell] at r4
      have HR2 := hid hr2
      have HW2 := hid (((HW.out.setCell (p := ⟨pe, 0, none⟩) (fun h => by have := HP.out; simp only at h; omega) (.int .i64 0)).alloc (.cells #[.int .i64 hl] 3)).trans hf2)
      clear hr2 hf2 HW HR c0 c1 c2 c3 g1 g2 g3 q0 q1 q2 q3
      generalize w1.heap.size = ph at *
      have c0 := r0.c
      have c1 := r1.c
      have c2 := r2.c
      have c3 := r3.c
      have c4 := r4.c
      have g1 := r1.f
      have g2 := r2.f
      have g3 := r3.f
      go_wp2_with fail
      go_region
      go_wp2_with fail
      obtain ⟨x0, x1, x2, x3, x4, x5⟩ := door_cells HR2.out (.int .i64 4) (.int .i64 hl) (.int .i64 0) (.int .i64 4) r0 r1 r2 r3 r4 (by omega) (by omega) (by omega) (by omega) (by omega) (by omega) (by omega) (by omega) (by omega) (nS _ (by omega)) (nS _ (by omega)) (nS _ (by omega))
      refine leaves_cons (f := 95) (args := #[.pointer (some ⟨pe, 0, none⟩), .pointer (some ⟨pt, 0, none⟩), .pointer (some ⟨ph, 0, none⟩), .pointer (some ⟨pa, 0, none⟩), .pointer (some ⟨pb, 0, none⟩)]) (by simp) (by simp [go_sem]) ?_
      refine (undo_err x0 4 hl (by omega) x1 x2 x3 x4 x5 (by omega) (nS _ (by omega)) (nS _ (by omega)) .returning).mono ?_
      rintro e u w3 ⟨rfl, rfl, w4, hr4, hf4, rfl⟩
      have y1 := x4.fr hf4 (nS _ (by omega))
      have y2 := x5.fr hf4 (nS _ (by omega))
      have y3 := x1.fr hf4 (nS _ (by omega))
      have z1 := ((y1.same (.int .i64 0)).other (b' := pb) (o' := 0) (by omega) (.int .i64 0)).c
      have z2 := ((y2.other (b' := pa) (o' := 0) (by omega) (.int .i64 0)).same (.int .i64 0)).c
      have z3 := ((y3.other (b' := pa) (o' := 0) (by omega) (.int .i64 0)).other (b' := pb) (o' := 0) (by omega) (.int .i64 0)).c
      refine ⟨.tuple #[.int .i64 0, .int .i64 0, .int .i64 4], (by simp [results, Try.results82, go_sem, z1, z2, z3]), ?_⟩
      rw [e3.out] at hr4
      rw [HF.out]
      refine ⟨rfl, (hr4.set 0 _ (by omega) (by omega) (by omega)).set 0 _ (by omega) (by omega) (by omega), ?_⟩
      have hpt := HP.out
      have hz : ∀ (i : Nat) (h : i < w.heap.size), pt ≤ i → S3 bT bC bR i := fun i h h' => by omega
      exact ((((((HW2.out.setCell (fun h => hz _ h (by simp only; omega)) _).setCell (fun h => hz _ h (by simp only; omega)) _).setCell (fun h => hz _ h (by simp only; omega)) _).setCell (fun h => hz _ h (by simp only; omega)) _).drew.trans hf4).setCell (fun h => hz _ h (by simp only; omega)) _).setCell (fun h => hz _ h (by simp only; omega)) _
    · have HF : Hid (L.pair s a b = (a + 4 * (s.gen a.toNat : Int), b + 4 * (s.gen b.toNat : Int), 0, L.take (L.take s a.toNat) b.toNat)) := by unfold Hid L.pair; rw [if_pos ha, if_pos hb, if_neg hb0, elo, ehi, if_neg ho, if_neg ho2]
      have e2 : Hid (L.acq (L.take s a.toNat) b = (b + 4 * (s.gen b.toNat : Int), 0, L.take (L.take s a.toNat) b.toNat)) := by unfold Hid L.acq; rw [if_pos hb, hop, if_neg ho2, hgn]
      clear h hA elo ehi e1 ho ho' hop hgn ho2
      generalize L.take (L.take s a.toNat) b.toNat = s2 at *
      generalize L.take s a.toNat = s1 at *
      generalize a + 4 * (s.gen a.toNat : Int) = hl at *
      generalize b + 4 * (s.gen b.toNat : Int) = hh at *
      go_enter_defers Try.func82, Try.ntmps82
      go_wp2_with (go_at_call 73; refine (good_any _ _).mono ?_; rintro e w' ⟨rfl, rfl⟩)
      refine HA.out.mono ?_
      rintro e w1 ⟨rfl, hr, hf⟩
      obtain ⟨q0, q1, q2, q3, hfw, ⟨l0, l1, l2, l3⟩, ⟨_, m1, m2, m3⟩, ⟨n0, n1, n2, n12, n01, n02⟩⟩ := pair_cells H.out hf
      have HR := hid hr
      have HW := hid hfw
      clear hr HA hf hfw
      generalize w.heap.size + 1 + 1 + 1 = pe at *
      generalize w.heap.size + 1 + 1 = pb at *
      generalize w.heap.size + 1 = pa at *
      generalize hpt : w.heap.size = pt at *
      have HP := hid hpt
      clear hpt
      have c0 := q0.c
      have c1 := q1.c
      have c2 := q2.c
      have c3 := q3.c
      have g1 := q1.f
      have g2 := q2.f
      have g3 := q3.f
      go_wp2_with fail
      have hB := acquire_any ((HR.out.set (b := pe) 0 (.int .i64 0) (by omega) (by omega) (by omega)).alloc (.cells #[.int .i64 hl] 3)) b
      rw [e2.out] at hB
      refine hB.mono ?_
      clear hB
      rintro e w2 ⟨rfl, hr2, hf2⟩
      have nS : ∀ i, pt ≤ i → ¬ S3 bT bC bR i := fun i hi => by unfold S3; omega
      have r0 := ((q0.other (fun e _ => n0 e.symm) (.int .i64 0)).alloc (.cells #[.int .i64 hl] 3)).fr hf2 (nS _ (by omega))
      have r1 := ((q1.other (fun e _ => n1 e.symm) (.int .i64 0)).alloc (.cells #[.int .i64 hl] 3)).fr hf2 (nS _ (by omega))
      have r2 := ((q2.other (fun e _ => n2 e.symm) (.int .i64 0)).alloc (.cells #[.int .i64 hl] 3)).fr hf2 (nS _ (by omega))
      have r3 := ((q3.same (.int .i64 0)).alloc (.cells #[.int .i64 hl] 3)).fr hf2 (nS _ (by omega))
      have r4 := (At.new (w1.setCell ⟨pe, 0, none⟩ (.int .i64 0)) #[.int .i64 hl] 3 (o := 0) rfl).fr hf2 (nS _ (by simp; omega))
      simp only [World.size_setCell] at r4
      have HR2 := hid hr2
      have HW2 := hid (((HW.out.setCell (p := ⟨pe, 0, none⟩) (fun h => by have := HP.out; simp only at h; omega) (.int .i64 0)).alloc (.cells #[.int .i64 hl] 3)).trans hf2)
      clear hr2 hf2 HW HR c0 c1 c2 c3 g1 g2 g3 q0 q1 q2 q3
      generalize w1.heap.size = ph at *
      have c0 := r0.c
      have c1 := r1.c
      have c2 := r2.c
      have c3 := r3.c
      have c4 := r4.c
      have g1 := r1.f
      have g2 := r2.f
      have g3 := r3.f
      go_wp2_with fail
      go_region
      go_wp2_with fail
      obtain ⟨x0, x1, x2, x3, x4, x5⟩ := door_cells HR2.out (.int .i64 0) (.int .i64 hl) (.int .i64 hh) (.int .i64 0) r0 r1 r2 r3 r4 (by omega) (by omega) (by omega) (by omega) (by omega) (by omega) (by omega) (by omega) (by omega) (nS _ (by omega)) (nS _ (by omega)) (nS _ (by omega))
      refine leaves_cons (f := 95) (args := #[.pointer (some ⟨pe, 0, none⟩), .pointer (some ⟨pt, 0, none⟩), .pointer (some ⟨ph, 0, none⟩), .pointer (some ⟨pa, 0, none⟩), .pointer (some ⟨pb, 0, none⟩)]) (by simp) (by simp [go_sem]) ?_
      refine (undo_ok x1 .returning).mono ?_
      rintro e u w3 ⟨rfl, rfl, hw3⟩
      have z1 := x4.c
      have z2 := x5.c
      have z3 := x1.c
      rw [← hw3] at z1 z2 z3 x0
      refine ⟨.tuple #[.int .i64 hl, .int .i64 hh, .int .i64 0], (by simp [results, Try.results82, go_sem, z1, z2, z3]), ?_⟩
      rw [HF.out]
      refine ⟨rfl, x0, ?_⟩
      rw [hw3]
      have hpt := HP.out
      have hz : ∀ (i : Nat) (h : i < w.heap.size), pt ≤ i → S3 bT bC bR i := fun i h h' => by omega
      exact ((((HW2.out.setCell (fun h => hz _ h (by simp only; omega)) _).setCell (fun h => hz _ h (by simp only; omega)) _).setCell (fun h => hz _ h (by simp only; omega)) _).setCell (fun h => hz _ h (by simp only; omega)) _).drew

theorem pair_gt {w : World} {bT bC bR : Nat} {s : L.St} (h : RT w bT bC bR s) (a b : Int) (ha : 0 ≤ a ∧ a < 4) (hb : 0 ≤ b ∧ b < 4) (hab : b < a) :
    Calls Try.prog 82 #[.pointer (some ⟨bT, 0, none⟩), .int .i64 a, .int .i64 b] w fun e w' =>
      e = .returned (.tuple #[.int .i64 (L.pair s a b).1, .int .i64 (L.pair s a b).2.1, .int .i64 (L.pair s a b).2.2.1]) ∧
      RT w' bT bC bR (L.pair s a b).2.2.2 ∧ Fr (S3 bT bC bR) w w' := by
  have ga : goodB a = true := by simp [goodB]; omega
  have gb : goodB b = true := by simp [goodB]; omega
  have hne : (a == b) = false := beq_eq_false_iff_ne.2 (by omega)
  have H := hid h
  have hlt := h.lt
  have hA := acquire_any ((((h.alloc (.cells #[.pointer (some ⟨bT, 0, none⟩)] 28)).alloc (.cells #[.int .i64 0] 3)).alloc (.cells #[.int .i64 0] 3)).alloc (.cells #[.int .i64 0] 34)) b
  have hmf : ∀ (fn : Fn) (first cap : Array Value) (w : World), (Instr.makeFunc fn first cap).run Try.prog w = .ok (.func fn first cap) w := fun _ _ _ _ => rfl
  have elo : L.lo a b = b := by simp [L.lo]; omega
  have ehi : L.hi a b = a := by simp [L.hi]; omega
  have hb0 : a ≠ b := by omega
  by_cases ho : s.op b.toNat = true
  · have e1 : L.acq s b = (0, 4, s) := by unfold L.acq; rw [if_pos hb, if_pos ho]
    have HF : Hid (L.pair s a b = (0, 0, 4, s)) := by unfold Hid L.pair; rw [if_pos ha, if_pos hb, if_neg hb0, elo, if_pos ho]
    rw [e1] at hA
    have HA := hid hA
    clear h hA elo ehi e1 ho
    go_enter_defers Try.func82, Try.ntmps82
    go_wp2_with (go_at_call 73; refine (good_any _ _).mono ?_; rintro e w' ⟨rfl, rfl⟩)
    refine HA.out.mono ?_
    rintro e w1 ⟨rfl, hr, hf⟩
    obtain ⟨q0, q1, q2, q3, hfw, ⟨l0, l1, l2, l3⟩, ⟨_, m1, m2, m3⟩, ⟨n0, n1, n2, n12, n01, n02⟩⟩ := pair_cells H.out hf
    have HR := hid hr
    have HW := hid hfw
    clear hr HA hf hfw
    generalize w.heap.size + 1 + 1 + 1 = pe at *
    generalize w.heap.size + 1 + 1 = pb at *
    generalize w.heap.size + 1 = pa at *
    generalize hpt : w.heap.size = pt at *
    have HP := hid hpt
    clear hpt
    have c0 := q0.c
    have c1 := q1.c
    have c2 := q2.c
    have c3 := q3.c
    have g1 := q1.f
    have g2 := q2.f
    have g3 := q3.f
    go_wp2_with fail
    go_region
    go_wp2_with fail
    refine ⟨.tuple #[.int .i64 0, .int .i64 0, .int .i64 4], (by simp [results, Try.results82, go_sem, *]), ?_⟩
    rw [HF.out]
    refine ⟨rfl, ?_, ?_⟩
    · exact (((((HR.out.set 0 _ (by omega) (by omega) (by omega)).set 0 _ (by omega) (by omega) (by omega)).set 0 _ (by omega) (by omega) (by omega)).set 0 _ (by omega) (by omega) (by omega)).alloc _).drew
    · have hpt := HP.out
      exact (((((HW.out.setCell (fun h => by simp only at h; omega) _).setCell (fun h => by simp only at h; omega) _).setCell (fun h => by simp only at h; omega) _).setCell (fun h => by simp only at h; omega) _).alloc _).drew
  · have ho' : s.op b.toNat = false := by simpa using ho
    have e1 : L.acq s b = (b + 4 * (s.gen b.toNat : Int), 0, L.take s b.toNat) := by unfold L.acq; rw [if_pos hb, if_neg ho]
    rw [e1] at hA
    have HA := hid hA
    have hop : (L.take s b.toNat).op a.toNat = s.op a.toNat := by simp [L.take, L.updB]; omega
    have hgn : (L.take s b.toNat).gen a.toNat = s.gen a.toNat := rfl
    by_cases ho2 : s.op a.toNat = true
    · have HF : Hid (L.pair s a b = (0, 0, 4, L.give (L.take s b.toNat) b.toNat)) := by unfold Hid L.pair; rw [if_pos ha, if_pos hb, if_neg hb0, elo, ehi, if_neg ho, if_pos ho2]
      have e2 : Hid (L.acq (L.take s b.toNat) a = (0, 4, L.take s b.toNat)) := by unfold Hid L.acq; rw [if_pos ha, hop, if_pos ho2]
      have e3 : Hid (L.rel (L.take s b.toNat) (b + 4 * (s.gen b.toNat : Int)) = (0, L.give (L.take s b.toNat) b.toNat)) := by
        have hg := H.out.ok.gen b.toNat (by omega)
        have hm : ((b + 4 * (s.gen b.toNat : Int)) % 4).toNat = b.toNat := by omega
        unfold Hid L.rel
        rw [if_pos (by omega), hm, if_pos (by rw [L.hdl_take_same]; omega)]
      clear h hA elo ehi e1 ho ho' hop hgn ho2
      generalize L.take s b.toNat = s1 at *
      generalize b + 4 * (s.gen b.toNat : Int) = hl at *
      go_enter_defers Try.func82, Try.ntmps82
      go_wp2_with (go_at_call 73; refine (good_any _ _).mono ?_; rintro e w' ⟨rfl, rfl⟩)
      refine HA.out.mono ?_
      rintro e w1 ⟨rfl, hr, hf⟩
      obtain ⟨q0, q1, q2, q3, hfw, ⟨l0, l1, l2, l3⟩, ⟨_, m1, m2, m3⟩, ⟨n0, n1, n2, n12, n01, n02⟩⟩ := pair_cells H.out hf
      have HR := hid hr
      have HW := hid hfw
      clear hr HA hf hfw
      generalize w.heap.size + 1 + 1 + 1 = pe at *
      generalize w.heap.size + 1 + 1 = pb at *
      generalize w.heap.size + 1 = pa at *
      generalize hpt : w.heap.size = pt at *
      have HP := hid hpt
      clear hpt
      have c0 := q0.c
      have c1 := q1.c
      have c2 := q2.c
      have c3 := q3.c
      have g1 := q1.f
      have g2 := q2.f
      have g3 := q3.f
      go_wp2_with fail
      have hB := acquire_any ((HR.out.set (b := pe) 0 (.int .i64 0) (by omega) (by omega) (by omega)).alloc (.cells #[.int .i64 hl] 3)) a
      rw [e2.out] at hB
      refine hB.mono ?_
      clear hB
      rintro e w2 ⟨rfl, hr2, hf2⟩
      have nS : ∀ i, pt ≤ i → ¬ S3 bT bC bR i := fun i hi => by unfold S3; omega
      have r0 := ((q0.other (fun e _ => n0 e.symm) (.int .i64 0)).alloc (.cells #[.int .i64 hl] 3)).fr hf2 (nS _ (by omega))
      have r1 := ((q1.other (fun e _ => n1 e.symm) (.int .i64 0)).alloc (.cells #[.int .i64 hl] 3)).fr hf2 (nS _ (by omega))
      have r2 := ((q2.other (fun e _ => n2 e.symm) (.int .i64 0)).alloc (.cells #[.int .i64 hl] 3)).fr hf2 (nS _ (by omega))
      have r3 := ((q3.same (.int .i64 0)).alloc (.cells #[.int .i64 hl] 3)).fr hf2 (nS _ (by omega))
      have r4 := (At.new (w1.setCell ⟨pe, 0, none⟩ (.int .i64 0)) #[.int .i64 hl] 3 (o := 0) rfl).fr hf2 (nS _ (by simp; omega))
      simp only [World.size_setCell] at r4
      have HR2 := hid hr2
      have HW2 := hid (((HW.out.setCell (p := ⟨pe, 0, none⟩) (fun h => by have := HP.out; simp only at h; omega) (.int .i64 0)).alloc (.cells #[.int .i64 hl] 3)).trans hf2)
      clear hr2 hf2 HW HR c0 c1 c2 c3 g1 g2 g3 q0 q1 q2 q3
      generalize w1.heap.size = ph at *
      have c0 := r0.c
      have c1 := r1.c
      have c2 := r2.c
      have c3 := r3.c
      have c4 := r4.c
      have g1 := r1.f
      have g2 := r2.f
      have g3 := r3.f
      go_wp2_with fail
      go_region
      go_wp2_with fail
      obtain ⟨x0, x1, x2, x3, x4, x5⟩ := door_cells HR2.out (.int .i64 4) (.int .i64 0) (.int .i64 hl) (.int .i64 4) r0 r1 r2 r3 r4 (by omega) (by omega) (by omega) (by omega) (by omega) (by omega) (by omega) (by omega) (by omega) (nS _ (by omega)) (nS _ (by omega)) (nS _ (by omega))
      refine leaves_cons (f := 95) (args := #[.pointer (some ⟨pe, 0, none⟩), .pointer (some ⟨pt, 0, none⟩), .pointer (some ⟨ph, 0, none⟩), .pointer (some ⟨pa, 0, none⟩), .pointer (some ⟨pb, 0, none⟩)]) (by simp) (by simp [go_sem]) ?_
      refine (undo_err x0 4 hl (by omega) x1 x2 x3 x4 x5 (by omega) (nS _ (by omega)) (nS _ (by omega)) .returning).mono ?_
      rintro e u w3 ⟨rfl, rfl, w4, hr4, hf4, rfl⟩
      have y1 := x4.fr hf4 (nS _ (by omega))
      have y2 := x5.fr hf4 (nS _ (by omega))
      have y3 := x1.fr hf4 (nS _ (by omega))
      have z1 := ((y1.same (.int .i64 0)).other (b' := pb) (o' := 0) (by omega) (.int .i64 0)).c
      have z2 := ((y2.other (b' := pa) (o' := 0) (by omega) (.int .i64 0)).same (.int .i64 0)).c
      have z3 := ((y3.other (b' := pa) (o' := 0) (by omega) (.int .i64 0)).other (b' := pb) (o' := 0) (by omega) (.int .i64 0)).c
      refine ⟨.tuple #[.int .i64 0, .int .i64 0, .int .i64 4], (by simp [results, Try.results82, go_sem, z1, z2, z3]), ?_⟩
      rw [e3.out] at hr4
      rw [HF.out]
      refine ⟨rfl, (hr4.set 0 _ (by omega) (by omega) (by omega)).set 0 _ (by omega) (by omega) (by omega), ?_⟩
      have hpt := HP.out
      have hz : ∀ (i : Nat) (h : i < w.heap.size), pt ≤ i → S3 bT bC bR i := fun i h h' => by omega
      exact ((((((HW2.out.setCell (fun h => hz _ h (by simp only; omega)) _).setCell (fun h => hz _ h (by simp only; omega)) _).setCell (fun h => hz _ h (by simp only; omega)) _).setCell (fun h => hz _ h (by simp only; omega)) _).drew.trans hf4).setCell (fun h => hz _ h (by simp only; omega)) _).setCell (fun h => hz _ h (by simp only; omega)) _
    · have HF : Hid (L.pair s a b = (a + 4 * (s.gen a.toNat : Int), b + 4 * (s.gen b.toNat : Int), 0, L.take (L.take s b.toNat) a.toNat)) := by unfold Hid L.pair; rw [if_pos ha, if_pos hb, if_neg hb0, elo, ehi, if_neg ho, if_neg ho2]
      have e2 : Hid (L.acq (L.take s b.toNat) a = (a + 4 * (s.gen a.toNat : Int), 0, L.take (L.take s b.toNat) a.toNat)) := by unfold Hid L.acq; rw [if_pos ha, hop, if_neg ho2, hgn]
      clear h hA elo ehi e1 ho ho' hop hgn ho2
      generalize L.take (L.take s b.toNat) a.toNat = s2 at *
      generalize L.take s b.toNat = s1 at *
      generalize b + 4 * (s.gen b.toNat : Int) = hl at *
      generalize a + 4 * (s.gen a.toNat : Int) = hh at *
      go_enter_defers Try.func82, Try.ntmps82
      go_wp2_with (go_at_call 73; refine (good_any _ _).mono ?_; rintro e w' ⟨rfl, rfl⟩)
      refine HA.out.mono ?_
      rintro e w1 ⟨rfl, hr, hf⟩
      obtain ⟨q0, q1, q2, q3, hfw, ⟨l0, l1, l2, l3⟩, ⟨_, m1, m2, m3⟩, ⟨n0, n1, n2, n12, n01, n02⟩⟩ := pair_cells H.out hf
      have HR := hid hr
      have HW := hid hfw
      clear hr HA hf hfw
      generalize w.heap.size + 1 + 1 + 1 = pe at *
      generalize w.heap.size + 1 + 1 = pb at *
      generalize w.heap.size + 1 = pa at *
      generalize hpt : w.heap.size = pt at *
      have HP := hid hpt
      clear hpt
      have c0 := q0.c
      have c1 := q1.c
      have c2 := q2.c
      have c3 := q3.c
      have g1 := q1.f
      have g2 := q2.f
      have g3 := q3.f
      go_wp2_with fail
      have hB := acquire_any ((HR.out.set (b := pe) 0 (.int .i64 0) (by omega) (by omega) (by omega)).alloc (.cells #[.int .i64 hl] 3)) a
      rw [e2.out] at hB
      refine hB.mono ?_
      clear hB
      rintro e w2 ⟨rfl, hr2, hf2⟩
      have nS : ∀ i, pt ≤ i → ¬ S3 bT bC bR i := fun i hi => by unfold S3; omega
      have r0 := ((q0.other (fun e _ => n0 e.symm) (.int .i64 0)).alloc (.cells #[.int .i64 hl] 3)).fr hf2 (nS _ (by omega))
      have r1 := ((q1.other (fun e _ => n1 e.symm) (.int .i64 0)).alloc (.cells #[.int .i64 hl] 3)).fr hf2 (nS _ (by omega))
      have r2 := ((q2.other (fun e _ => n2 e.symm) (.int .i64 0)).alloc (.cells #[.int .i64 hl] 3)).fr hf2 (nS _ (by omega))
      have r3 := ((q3.same (.int .i64 0)).alloc (.cells #[.int .i64 hl] 3)).fr hf2 (nS _ (by omega))
      have r4 := (At.new (w1.setCell ⟨pe, 0, none⟩ (.int .i64 0)) #[.int .i64 hl] 3 (o := 0) rfl).fr hf2 (nS _ (by simp; omega))
      simp only [World.size_setCell] at r4
      have HR2 := hid hr2
      have HW2 := hid (((HW.out.setCell (p := ⟨pe, 0, none⟩) (fun h => by have := HP.out; simp only at h; omega) (.int .i64 0)).alloc (.cells #[.int .i64 hl] 3)).trans hf2)
      clear hr2 hf2 HW HR c0 c1 c2 c3 g1 g2 g3 q0 q1 q2 q3
      generalize w1.heap.size = ph at *
      have c0 := r0.c
      have c1 := r1.c
      have c2 := r2.c
      have c3 := r3.c
      have c4 := r4.c
      have g1 := r1.f
      have g2 := r2.f
      have g3 := r3.f
      go_wp2_with fail
      go_region
      go_wp2_with fail
      obtain ⟨x0, x1, x2, x3, x4, x5⟩ := door_cells HR2.out (.int .i64 0) (.int .i64 hh) (.int .i64 hl) (.int .i64 0) r0 r1 r2 r3 r4 (by omega) (by omega) (by omega) (by omega) (by omega) (by omega) (by omega) (by omega) (by omega) (nS _ (by omega)) (nS _ (by omega)) (nS _ (by omega))
      refine leaves_cons (f := 95) (args := #[.pointer (some ⟨pe, 0, none⟩), .pointer (some ⟨pt, 0, none⟩), .pointer (some ⟨ph, 0, none⟩), .pointer (some ⟨pa, 0, none⟩), .pointer (some ⟨pb, 0, none⟩)]) (by simp) (by simp [go_sem]) ?_
      refine (undo_ok x1 .returning).mono ?_
      rintro e u w3 ⟨rfl, rfl, hw3⟩
      have z1 := x4.c
      have z2 := x5.c
      have z3 := x1.c
      rw [← hw3] at z1 z2 z3 x0
      refine ⟨.tuple #[.int .i64 hh, .int .i64 hl, .int .i64 0], (by simp [results, Try.results82, go_sem, z1, z2, z3]), ?_⟩
      rw [HF.out]
      refine ⟨rfl, x0, ?_⟩
      rw [hw3]
      have hpt := HP.out
      have hz : ∀ (i : Nat) (h : i < w.heap.size), pt ≤ i → S3 bT bC bR i := fun i h h' => by omega
      exact ((((HW2.out.setCell (fun h => hz _ h (by simp only; omega)) _).setCell (fun h => hz _ h (by simp only; omega)) _).setCell (fun h => hz _ h (by simp only; omega)) _).setCell (fun h => hz _ h (by simp only; omega)) _).drew

theorem pair_any {w : World} {bT bC bR : Nat} {s : L.St} (h : RT w bT bC bR s) (a b : Int) :
    Calls Try.prog 82 #[.pointer (some ⟨bT, 0, none⟩), .int .i64 a, .int .i64 b] w fun e w' =>
      e = .returned (.tuple #[.int .i64 (L.pair s a b).1, .int .i64 (L.pair s a b).2.1, .int .i64 (L.pair s a b).2.2.1]) ∧
      RT w' bT bC bR (L.pair s a b).2.2.2 ∧ Fr (S3 bT bC bR) w w' := by
  by_cases ha : 0 ≤ a ∧ a < 4
  · have ga : goodB a = true := by simp [goodB, ha]
    by_cases hb : 0 ≤ b ∧ b < 4
    · have gb : goodB b = true := by simp [goodB, hb]
      by_cases hab : a = b
      · subst hab
        have HF : Hid (L.pair s a a = (0, 0, 3, s)) := by unfold Hid L.pair; rw [if_pos ha, if_pos ha, if_pos rfl]
        go_enter_defers Try.func82, Try.ntmps82
        go_wp2_with (go_at_call 73; refine (good_any _ _).mono ?_; rintro e w' ⟨rfl, rfl⟩)
        refine ⟨.tuple #[.int .i64 0, .int .i64 0, .int .i64 3], (by simp [results, Try.results82, go_sem]), ?_⟩
        rw [HF.out]
        exact ⟨rfl, (((h.alloc _).alloc _).alloc _).alloc _, ((((Fr.refl _ _).alloc _).alloc _).alloc _).alloc _⟩
      · rcases Int.lt_or_gt_of_ne hab with hl | hl
        · exact pair_lt h a b ha hb hl
        · exact pair_gt h a b ha hb hl
    · have gb : goodB b = false := by simp [goodB]; omega
      have HF : Hid (L.pair s a b = (0, 0, 2, s)) := by unfold Hid L.pair; rw [if_pos ha, if_neg hb]
      go_enter_defers Try.func82, Try.ntmps82
      go_wp2_with (go_at_call 73; refine (good_any _ _).mono ?_; rintro e w' ⟨rfl, rfl⟩)
      refine ⟨.tuple #[.int .i64 0, .int .i64 0, .int .i64 2], (by simp [results, Try.results82, go_sem]), ?_⟩
      rw [HF.out]
      exact ⟨rfl, (((h.alloc _).alloc _).alloc _).alloc _, ((((Fr.refl _ _).alloc _).alloc _).alloc _).alloc _⟩
  · have ga : goodB a = false := by simp [goodB]; omega
    have HF : Hid (L.pair s a b = (0, 0, 2, s)) := by unfold Hid L.pair; rw [if_neg ha]
    go_enter_defers Try.func82, Try.ntmps82
    go_wp2_with (go_at_call 73; refine (good_any _ _).mono ?_; rintro e w' ⟨rfl, rfl⟩)
    refine ⟨.tuple #[.int .i64 0, .int .i64 0, .int .i64 2], (by simp [results, Try.results82, go_sem]), ?_⟩
    rw [HF.out]
    exact ⟨rfl, (((h.alloc _).alloc _).alloc _).alloc _, ((((Fr.refl _ _).alloc _).alloc _).alloc _).alloc _⟩
end Go.Proofs.Qxb6500452a
