/- The model of the ledger: Batch: what it owes, its state. -/
import Derived.Test.Qxb6500452aWOwn
namespace Go.Proofs.Qxb6500452a
open Go Go.RowKit
set_option maxRecDepth 100000
set_option maxHeartbeats 1600000
set_option linter.unusedSimpArgs false
set_option linter.unusedVariables false

theorem acq_not7 (s : L.St) (k : Int) : (L.acq s k).2.1 ≠ 7 := by
  unfold L.acq
  split
  · split <;> simp
  · simp
theorem chk_not7 (f t a : Int) : chk f t a ≠ 7 := by
  unfold chk
  split
  · split <;> simp
  · simp
theorem lock1_not7 (x : BS) (k : Nat) : (lock1 x k).1 ≠ 7 := by
  unfold lock1
  split
  · simp
  · split
    · simp
    · exact acq_not7 _ _
theorem lkN_not7 (x : BS) (f t : Nat) : (lkN x f t 2).1 ≠ 7 := by
  rw [lkN_two x f t 0]
  split
  · exact lock1_not7 x f
  · exact lock1_not7 _ t

theorem payJ_nil {bal : Nat → Int} {f t : Nat} {a : Int} {jr : List (Nat × Int)} : payJ bal f t a jr = [] ↔ (jr = [] ∧ payE bal f t a = 6) := by
  unfold payJ payE
  split
  · simp
  · split <;> simp
theorem payE_cases (bal : Nat → Int) (f t : Nat) (a : Int) : payE bal f t a = 0 ∨ payE bal f t a = 6 ∨ payE bal f t a = 7 := by
  unfold payE; split
  · exact .inr (.inl rfl)
  · split
    · exact .inr (.inr rfl)
    · exact .inl rfl

theorem run_un : ∀ (ms : List Mv) (i : Nat) (x : BS), i ≤ (runB i ms x).1 ∧ ((runB i ms x).2.1 ≠ 0 → undo (runB i ms x).2.2.bal (runB i ms x).2.2.jr = undo x.bal x.jr ∧ ((runB i ms x).2.2.jr = [] ↔ (x.jr = [] ∧ (runB i ms x).1 = i ∧ (runB i ms x).2.1 ≠ 7)))
  | [], i, x => ⟨Nat.le_refl _, fun h => absurd rfl h⟩
  | m :: ms, i, x => by
    have ih := run_un ms (i + 1) (move1 x m).2
    unfold runB
    by_cases hc : chk m.f m.t m.a = 0
    · obtain ⟨mf, mt, ma⟩ := m
      obtain ⟨fn, tn, rfl, rfl, hf4, ht4, hft, a1, a2⟩ := chk_ok hc
      have sm := lkN_same x fn tn 2
      by_cases hl : (lkN x fn tn 2).1 = 0
      · rw [move1_pay hc hl] at ih ⊢
        simp only [pay1] at ih ⊢
        have hu := undo_pay (bal := (lkN x fn tn 2).2.bal) hft ma (lkN x fn tn 2).2.jr
        rw [sm.1, sm.2] at hu ih ⊢
        rcases payE_cases x.bal fn tn ma with he | he | he
        · rw [if_neg (fun h => h he)]
          refine ⟨by omega, fun h => ?_⟩
          obtain ⟨h1, h2⟩ := ih.2 h
          refine ⟨h1.trans hu, h2.trans ?_⟩
          rw [payJ_nil, he]
          constructor
          · rintro ⟨⟨_, c⟩, _⟩; exact absurd c (by decide)
          · rintro ⟨_, c, _⟩; exact absurd c (by omega)
        · rw [if_pos (by rw [he]; decide)]
          refine ⟨Nat.le_refl _, fun _ => ⟨hu, ?_⟩⟩
          simp only [payJ_nil, he]
          simp
        · rw [if_pos (by rw [he]; decide)]
          refine ⟨Nat.le_refl _, fun _ => ⟨hu, ?_⟩⟩
          simp only [payJ_nil, he]
          simp
      · rw [move1_lock hc hl]
        rw [if_pos hl]
        refine ⟨Nat.le_refl _, fun _ => ⟨by simp only; rw [sm.1, sm.2], ?_⟩⟩
        simp only
        rw [sm.2]
        have := lkN_not7 x fn tn
        simp [this]
    · have hm : move1 x m = (chk m.f m.t m.a, x) := by unfold move1; rw [if_pos hc]
      rw [hm, if_pos hc]
      refine ⟨Nat.le_refl _, fun _ => ⟨rfl, ?_⟩⟩
      have := chk_not7 m.f m.t m.a
      simp [this]

/-- How a batch that fails leaves the books. -/
theorem run_fail {s : Led} {ms : List Mv} {i : Nat} {e : Int} {x : BS} (h : runB 0 ms s.start = (i, e, x)) (he : e ≠ 0) : endB s (i, e, x) = ⟨relAll x.hs x.lk, s.bal, if 0 < i ∨ e = 7 then bump s.un else s.un⟩ := by
  have hr := (run_un ms 0 s.start).2
  rw [h] at hr
  obtain ⟨h1, h2⟩ := hr he
  unfold endB
  simp only
  rw [if_neg he]
  have h1' : undo x.bal x.jr = s.bal := h1
  rw [h1']
  congr 1
  have h2' : x.jr = [] ↔ (i = 0 ∧ e ≠ 7) := by
    rw [show (x.jr = [] ↔ _) from h2]
    simp [Led.start]
  by_cases hj : x.jr = []
  · rw [if_pos hj, if_neg]
    have := h2'.1 hj
    omega
  · rw [if_neg hj, if_pos]
    have : ¬ (i = 0 ∧ e ≠ 7) := fun c => hj (h2'.2 c)
    omega

structure BF (w0 w : World) (X M : Nat) (s : Led) (lk : L.St) (hs : List Int) (v : Value) (N : Nat) : Prop where
  ml : ML w X M ⟨lk, s.bal, s.un⟩
  ow : OwnI w N v hs.reverse
  nl : w0.heap.size ≤ N ∧ N ≤ w.heap.size
  hl : hs.length ≤ 6
  fr : Fr (SM X M) w0 w

structure BM (w0 w : World) (X M : Nat) (s : Led) (x : BS) (v : Value) (N pb pm : Nat) : Prop where
  bf : BF w0 w X M s x.lk x.hs v N
  bb : ∀ k, k < 4 → At w pb k (.int .i64 (x.bal k))
  mn : ∀ k, k < 4 → At w pm k (.bool (x.mine k))
  ds : w0.heap.size ≤ pb ∧ pb < pm ∧ pm < N
  bl : ∀ k, k < 4 → 0 ≤ x.bal k ∧ x.bal k ≤ 250
  tot : sum4 x.bal = 400
section
variable {w0 w w' : World} {X M : Nat} {s : Led} {x : BS} {v : Value} {N pb pm : Nat} {lk : L.St} {hs : List Int}
theorem BF.quiet (h : BF w0 w X M s lk hs v N) (hf : Fr (fun _ => False) w w') : BF w0 w' X M s lk hs v N :=
  ⟨h.ml.fr hf (fun _ _ h => h), h.ow.fr hf (fun _ _ h => h), ⟨h.nl.1, Nat.le_trans h.nl.2 hf.size⟩, h.hl, h.fr.then hf (fun _ _ h => h.elim)⟩
theorem BM.quiet (h : BM w0 w X M s x v N pb pm) (hf : Fr (fun _ => False) w w') : BM w0 w' X M s x v N pb pm :=
  ⟨h.bf.quiet hf, fun k hk => (h.bb k hk).fr hf (fun h => h), fun k hk => (h.mn k hk).fr hf (fun h => h), h.ds, h.bl, h.tot⟩
theorem BF.low (h : BF w0 w X M s lk hs v N) (hX : ∀ i, SM X M i → i < w0.heap.size) {k : Nat} (hk : v.ownBlock = some k) : ¬ SM X M k := fun c => by
  have := h.ow.lt hk
  have := hX k c
  have := h.nl.1
  omega
theorem BF.lock (h : BF w0 w X M s lk hs v N) (hX : ∀ i, SM X M i → i < w0.heap.size) {lk' : L.St} (hm : MT w' M lk') (hf : Fr (S1 M) w w') : BF w0 w' X M s lk' hs v N :=
  ⟨h.ml.lock hm hf, h.ow.fr hf (fun k hk c => h.low hX hk (.inr c)), ⟨h.nl.1, Nat.le_trans h.nl.2 hf.size⟩, h.hl, h.fr.trans (hf.mono (fun _ _ h => SM_of1 h))⟩
theorem BM.lock (h : BM w0 w X M s x v N pb pm) (hX : ∀ i, SM X M i → i < w0.heap.size) {lk' : L.St} (hm : MT w' M lk') (hf : Fr (S1 M) w w') : BM w0 w' X M s ⟨lk', x.mine, x.hs, x.bal, x.jr⟩ v N pb pm := by
  have hd := h.ds
  have n1 : ¬ S1 M pb := fun e => by have := hX pb (.inr e); omega
  have n2 : ¬ S1 M pm := fun e => by have := hX pm (.inr e); omega
  exact ⟨h.bf.lock hX hm hf, fun k hk => (h.bb k hk).fr hf n1, fun k hk => (h.mn k hk).fr hf n2, h.ds, h.bl, h.tot⟩
theorem BF.new (h : BF w0 w X M s lk hs v N) (hX : ∀ i, SM X M i → i < w0.heap.size) {q o : Nat} {u : Value} (hq : w0.heap.size ≤ q) (hqN : q < N) : BF w0 (w.setCell ⟨q, o, none⟩ u) X M s lk hs v N := by
  have hf : Fr (fun i => i = q) w (w.setCell ⟨q, o, none⟩ u) := (Fr.refl (fun i => i = q) w).setCell (p := ⟨q, o, none⟩) (fun _ => rfl) _
  exact ⟨h.ml.fr hf (fun i hi e => by have := hX i hi; omega), h.ow.fr hf (fun k hk e => by have := h.ow.lt hk; omega), ⟨h.nl.1, Nat.le_trans h.nl.2 hf.size⟩, h.hl, h.fr.setN hq _ _⟩
theorem BM.own (h : BM w0 w X M s x v N pb pm) (hX : ∀ i, SM X M i → i < w0.heap.size) {k : Nat} : BM w0 (w.setCell ⟨pm, k, none⟩ (.bool true)) X M s ⟨x.lk, L.updB x.mine k true, x.hs, x.bal, x.jr⟩ v N pb pm := by
  have hd := h.ds
  refine ⟨h.bf.new hX (by omega) (by omega), fun j hj => (h.bb j hj).other (by omega) _, fun j hj => ?_, h.ds, h.bl, h.tot⟩
  by_cases e : j = k
  · subst e
    exact ((h.mn j hj).same _).val (by simp [L.updB])
  · exact ((h.mn j hj).other (fun _ c => e c.symm) _).val (by simp [L.updB, e])
theorem BM.app (h : BM w0 w X M s x v N pb pm) (hX : ∀ i, SM X M i → i < w0.heap.size) {g cap : Nat} {y : Int} (hl : x.hs.length ≤ 5) (ow : OwnI w' N (.slice (some ⟨g, 0, none⟩) (x.hs.reverse.length + 1) cap) (x.hs.reverse ++ [y])) (hf : Fr (fun i => v.ownBlock = some i) w w') :
    BM w0 w' X M s ⟨x.lk, x.mine, y :: x.hs, x.bal, x.jr⟩ (.slice (some ⟨g, 0, none⟩) (x.hs.reverse.length + 1) cap) N pb pm := by
  have hd := h.ds
  have n : ∀ q, q < N → ¬ v.ownBlock = some q := fun q hq e => by have := h.bf.ow.lt e; omega
  refine ⟨⟨h.bf.ml.fr hf (fun i hi e => h.bf.low hX e hi), ?_, ⟨h.bf.nl.1, Nat.le_trans h.bf.nl.2 hf.size⟩, by simp; omega, h.bf.fr.then hf (fun i hi e => by have := h.bf.ow.lt e; have := h.bf.nl.1; omega)⟩, fun k hk => (h.bb k hk).fr hf (n _ (by omega)), fun k hk => (h.mn k hk).fr hf (n _ (by omega)), h.ds, h.bl, h.tot⟩
  show OwnI w' N _ (y :: x.hs).reverse
  rw [List.reverse_cons]
  exact ow
end

end Go.Proofs.Qxb6500452a
