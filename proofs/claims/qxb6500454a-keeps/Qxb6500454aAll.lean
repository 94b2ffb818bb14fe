import Derived.Test.Qxb6500454aPair
namespace Go.Proofs.Qxb6500454a
open Go Go.RowKit
set_option maxRecDepth 100000
set_option maxHeartbeats 800000
set_option linter.unusedSimpArgs false
set_option linter.unusedVariables false

/-- The deferred closure of ReleaseAll, at the box of lock j's handle. -/
def clo (B j : Nat) : Deferred := { target := .fn (.func 30) #[.pointer (some ⟨B, 0, none⟩), .pointer (some ⟨B + 2 + j, 0, none⟩), .pointer (some ⟨B + 1, 0, none⟩)], args := #[] }

def dsOf (B : Nat) : Nat → L.St → List Deferred
  | 0, _ => []
  | k + 1, s => if s.op k = true then clo B k :: dsOf B k s else dsOf B k s

theorem dsOf_congr (B : Nat) : ∀ (k : Nat) (s s' : L.St), (∀ j, j < k → s.op j = s'.op j) → dsOf B k s = dsOf B k s'
  | 0, _, _, _ => rfl
  | k + 1, s, s', h => by
    simp only [dsOf]
    rw [h k (by omega), dsOf_congr B k s s' (fun j hj => h j (by omega))]

theorem one_all {w : World} {bT bC bR : Nat} {s : L.St} (h : RT w bT bC bR s) {B bh : Nat} (k n : Nat) (hk : k < 4) (hn : n < 100) (ho : s.op k = true)
    (q0 : At w B 0 (.pointer (some ⟨bT, 0, none⟩))) (q1 : At w (B + 1) 0 (.int .i64 n)) (qh : At w bh 0 (.int .i64 (s.hdl k))) (hB : ¬ S3 bT bC bR (B + 1)) (u : FrameMode) :
    CallsD Try.prog 30 #[.pointer (some ⟨B, 0, none⟩), .pointer (some ⟨bh, 0, none⟩), .pointer (some ⟨B + 1, 0, none⟩)] u w
      fun e u' w' => u' = u ∧ (e = .returned (.tuple #[]) ∧ RT w' bT bC bR (L.give s k) ∧ At w' (B + 1) 0 (.int .i64 ((n + 1 : Nat) : Int)) ∧ Fr (fun i => S3 bT bC bR i ∨ i = B + 1) w w') := by
  have c0 := q0.c
  have c1 := q1.c
  have ch := qh.c
  have hg := h.ok.gen k hk
  have hh : s.hdl k = (k : Int) + 4 * (s.gen k : Int) := L.hdl_open ho
  have e1 : L.rel s (s.hdl k) = (0, L.give s k) := by
    unfold L.rel
    have hm : (s.hdl k % 4).toNat = k := by rw [hh]; omega
    rw [if_pos (by omega), hm, if_pos rfl]
  have hA := release_any h (s.hdl k)
  rw [e1] at hA
  have HA := hid hA
  have HR := hid h
  have hn' : (n : Int) < 100 := by omega
  have Q1 := hid q1
  clear h hA e1 q0 q1 qh hh
  generalize s.hdl k = hd at *
  go_enter_d Try.func30, Try.ntmps30
  go_wp2_with fail
  refine HA.out.mono ?_
  rintro e w1 ⟨rfl, hr, hf⟩
  have y := Q1.out.fr hf hB
  have y1 := y.c
  have y2 := y.f
  have HR1 := hid hr
  have HF := hid hf
  clear hr hf c1
  go_wp2_with fail
  go_end0
  unfold S3 at hB
  refine ⟨rfl, HR1.out.set 0 _ (by omega) (by omega) (by omega), (y.same _).val (by simp), ?_⟩
  exact (HF.out.mono (fun i _ h => .inl h)).setCell (fun _ => .inr rfl) _

/-- All deferred releases, the last laid first. -/
theorem leaves_all {bT bC bR B : Nat} (tmps : Array Value) (ht : tmps.getD 2 undef = .pointer (some ⟨B + 1, 0, none⟩)) (hB : ∀ i, B ≤ i → ¬ S3 bT bC bR i) (R : Ending → World → Prop) :
    ∀ (k : Nat) (hk : k ≤ 4) (s : L.St) (n : Nat) (hn : n + k < 100) (w : World) (_ : RT w bT bC bR s) (_ : At w B 0 (.pointer (some ⟨bT, 0, none⟩))) (_ : At w (B + 1) 0 (.int .i64 n))
      (_ : ∀ j, j < k → At w (B + 2 + j) 0 (.int .i64 (s.hdl j)))
      (_ : ∀ w', RT w' bT bC bR (L.allTo k s).2 → Fr (fun i => S3 bT bC bR i ∨ i = B + 1) w w' → R (.returned (.int .i64 ((n + (L.allTo k s).1 : Nat) : Int))) w'),
      Leaves Try.prog Try.f19 tmps R (dsOf B k s) .returning w := by
  intro k
  induction k with
  | zero =>
    intro hk s n hn w h q0 q1 qs hR
    have c1 := q1.c
    refine ⟨.int .i64 n, ?_, hR w h (Fr.refl _ _)⟩
    have ht' : tmps[2]?.getD undef = .pointer (some ⟨B + 1, 0, none⟩) := by simpa using ht
    simp [results, Try.results19, go_sem, ht', c1]
  | succ k ih =>
    intro hk s n hn w h q0 q1 qs hR
    by_cases ho : s.op k = true
    · have e1 : L.allTo (k + 1) s = ((L.allTo k (L.give s k)).1 + 1, (L.allTo k (L.give s k)).2) := by simp [L.allTo, ho]
      have e2 : dsOf B (k + 1) s = clo B k :: dsOf B k (L.give s k) := by
        simp only [dsOf, ho, if_true]
        rw [dsOf_congr B k s (L.give s k) (fun j hj => by simp [L.give, L.updB]; omega)]
      rw [e2]
      refine leaves_cons (f := 30) (args := #[.pointer (some ⟨B, 0, none⟩), .pointer (some ⟨B + 2 + k, 0, none⟩), .pointer (some ⟨B + 1, 0, none⟩)]) (by simp) ?_ ?_
      · simp [go_sem]
      refine (one_all h k n (by omega) (by omega) ho q0 q1 (qs k (by omega)) (hB _ (by omega)) .returning).mono ?_
      rintro e u w1 ⟨rfl, rfl, hr, hq, hf⟩
      have nS : ∀ i, B ≤ i → i ≠ B + 1 → ¬ (S3 bT bC bR i ∨ i = B + 1) := fun i hi hne h => h.elim (hB i hi) hne
      refine ih (by omega) (L.give s k) (n + 1) (by omega) w1 hr (q0.fr hf (nS _ (by omega) (by omega))) hq (fun j hj => ?_) (fun w' hr' hf' => ?_)
      · exact ((qs j (by omega)).fr hf (nS _ (by omega) (by omega))).val (by rw [L.hdl_give_other _ (by omega)])
      · have := hR w' (by rw [e1]; exact hr') (hf.trans hf')
        rw [e1] at this
        have ee : n + ((L.allTo k (L.give s k)).1 + 1) = n + 1 + (L.allTo k (L.give s k)).1 := by omega
        simp only at this
        rw [ee] at this
        exact this
    · have e1 : L.allTo (k + 1) s = L.allTo k s := by simp [L.allTo, ho]
      have e2 : dsOf B (k + 1) s = dsOf B k s := by simp [dsOf, ho]
      rw [e2]
      rw [e1] at hR
      exact ih (by omega) s n (by omega) w h q0 q1 (fun j hj => qs j (by omega)) hR

theorem all_any {w : World} {bT bC bR : Nat} {s : L.St} (h : RT w bT bC bR s) :
    Calls Try.prog 19 #[.pointer (some ⟨bT, 0, none⟩)] w fun e w' => e = .returned (.int .i64 ((L.allTo 4 s).1 : Int)) ∧ RT w' bT bC bR (L.allTo 4 s).2 ∧ Fr (S3 bT bC bR) w w' := by
  have hmf : ∀ (fn : Fn) (first cap : Array Value) (w : World), (Instr.makeFunc fn first cap).run Try.prog w = .ok (.func fn first cap) w := fun _ _ _ _ => rfl
  have hlt := h.lt
  have H := hid h
  clear h
  obtain ⟨B, hB⟩ : ∃ B, B = w.heap.size := ⟨_, rfl⟩
  go_enter_defers Try.func19, Try.ntmps19
  go_wp2_with fail
  refine wp_loop (fun a' w' => ∃ k : Nat, k ≤ 4 ∧ (∃ u4 u5 u6 u7 u8 u9 u10 u11 u12 u13 u14 u15 u16 u17 u18 u19, a' = ⟨#[.pointer (some ⟨bT, 0, none⟩), .pointer (some ⟨w.heap.size, 0, none⟩), .pointer (some ⟨w.heap.size + 1, 0, none⟩), .int .i64 (k : Int), u4, u5, u6, u7, u8, u9, u10, u11, u12, u13, u14, u15, u16, u17, u18, u19], dsOf w.heap.size k s⟩) ∧
      RT w' bT bC bR s ∧ At w' w.heap.size 0 (.pointer (some ⟨bT, 0, none⟩)) ∧ At w' (w.heap.size + 1) 0 (.int .i64 0) ∧ (∀ j : Nat, j < k → At w' (w.heap.size + 2 + j) 0 (.int .i64 (s.hdl j))) ∧ w'.heap.size = w.heap.size + 2 + k ∧ Fr (S3 bT bC bR) w w')
    (fun a' _ => (4 - intOf (a'.tmps.getD 3 undef)).toNat) ?_ ?_
  · refine ⟨0, by omega, ⟨_, _, _, _, _, _, _, _, _, _, _, _, _, _, _, _, rfl⟩, (H.out.alloc _).alloc _, (At.new w _ _ rfl).alloc _, ?_, fun j hj => absurd hj (by omega), by simp, ((Fr.refl _ _).alloc _).alloc _⟩
    have := At.new (w.alloc (.cells #[.pointer (some ⟨bT, 0, none⟩)] 26)) #[.int .i64 0] 3 (o := 0) rfl
    simpa using this
  · rintro a' w' ⟨k, hk, ⟨u4, u5, u6, u7, u8, u9, u10, u11, u12, u13, u14, u15, u16, u17, u18, u19, rfl⟩, hr, q0, q1, qs, hsz, hf⟩
    have c0 := q0.c
    have t0 := hr.t0.c
    have hkk : (0 : Int) ≤ (k : Int) := by omega
    have HR := hid hr
    have HF := hid hf
    have Q1 := hid q1
    by_cases hlt4 : k < 4
    · have hk4 : (k : Int) < 4 := by omega
      have co := (hr.co k hlt4).c
      have nw : At (w'.alloc (.cells #[.int .i64 (s.hdl k)] 3)) (w.heap.size + 2 + k) 0 (.int .i64 (s.hdl k)) := by
        have := At.new w' #[.int .i64 (s.hdl k)] 3 (o := 0) rfl
        rw [hsz] at this
        exact this
      have NW := hid nw
      have QS := hid qs
      by_cases ho : s.op k = true
      · have hd : dsOf w.heap.size (k + 1) s = clo w.heap.size k :: dsOf w.heap.size k s := by simp [dsOf, ho]
        have HD := hid hd
        have hpos : 0 ≤ s.hdl k := L.hdl_nonneg.2 ho
        clear hr hf q1 hd ho qs nw
        go_wp2_with fail
        refine ⟨⟨k + 1, by omega, ⟨_, _, _, _, _, _, _, _, _, _, _, _, _, _, _, _, by rw [HD.out]; rfl⟩, HR.out.alloc _, q0.alloc _, Q1.out.alloc _, fun j hj => ?_, by simp [hsz]; omega, HF.out.alloc _⟩, by simp [intOf]; omega⟩
        by_cases hj' : j = k
        · subst hj'; exact NW.out
        · exact (QS.out j (by omega)).alloc _
      · have hd : dsOf w.heap.size (k + 1) s = dsOf w.heap.size k s := by simp [dsOf, ho]
        have HD := hid hd
        have hneg : s.hdl k = -1 := L.hdl_free (by simpa using ho)
        have HN := hid hneg
        rw [hneg] at co
        clear hr hf q1 hd ho qs nw hneg
        go_wp2_with fail
        have hneg := HN.out
        refine ⟨⟨k + 1, by omega, ⟨_, _, _, _, _, _, _, _, _, _, _, _, _, _, _, _, by rw [HD.out]; rfl⟩, HR.out.alloc _, q0.alloc _, Q1.out.alloc _, fun j hj => ?_, by simp [hsz]; omega, HF.out.alloc _⟩, by simp [intOf]; omega⟩
        by_cases hj' : j = k
        · subst hj'; have := NW.out; rw [hneg] at this ⊢; exact this
        · exact (QS.out j (by omega)).alloc _
    · have hk4 : ¬ (k : Int) < 4 := by omega
      have hk4' : k = 4 := by omega
      have QS := hid qs
      have c1 := q1.c
      have f1 := q1.f
      clear hr hf qs
      go_wp2_with fail
      subst hk4'
      have hBS : ∀ i, w.heap.size ≤ i → ¬ S3 bT bC bR i := fun i hi => S3_not H.out hi
      have nS1 := hBS (w.heap.size + 1) (by omega)
      unfold S3 at nS1
      refine leaves_all _ rfl hBS _ 4 (by omega) s 0 (by omega) _ (HR.out.set 0 _ (by omega) (by omega) (by omega)) (q0.other (by omega) _) (Q1.out.same _) (fun j hj => (QS.out j hj).other (by omega) _) ?_
      intro w2 hr2 hf2
      refine ⟨by simp, hr2, ?_⟩
      exact (HF.out.setCell (fun h => by simp only at h; omega) _).then hf2 (fun i hi h => h.elim id (fun e => by omega))
end Go.Proofs.Qxb6500454a
