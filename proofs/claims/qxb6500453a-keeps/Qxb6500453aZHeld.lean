/- What the law itself holds; both at one state; strings cut. -/
import Derived.Test.Qxb6500453aZBook
import Derived.Test.Qxb6500453aYWalk
namespace Go.Proofs.Qxb6500453a
open Go Go.RowKit
set_option maxRecDepth 100000
set_option maxHeartbeats 1600000
set_option linter.unusedSimpArgs false
set_option linter.unusedVariables false

/-- The handles in l are just those of the locks that are taken. -/
def HeldBy (lk : L.St) (l : List Int) : Prop := ∃ ks : List Nat, ks.Nodup ∧ (∀ k ∈ ks, k < 4 ∧ lk.op k = true) ∧ (∀ k, k < 4 → lk.op k = true → k ∈ ks) ∧ l.reverse = ks.map (hnd lk.gen)
theorem held_init : HeldBy L.init [] := ⟨[], by simp, by simp, fun k _ h => by simp [L.init] at h, rfl⟩
theorem HeldBy.kept {lk lk' : L.St} {l : List Int} (h : HeldBy lk l) (hk : Kept lk lk') : HeldBy lk' l := by
  obtain ⟨ks, h1, h2, h3, h4⟩ := h
  refine ⟨ks, h1, fun k hk' => ⟨(h2 k hk').1, by rw [hk.op]; exact (h2 k hk').2⟩, fun k h4 ho => h3 k h4 (by rw [← hk.op]; exact ho), ?_⟩
  rw [h4]
  apply List.map_congr_left
  intro k hk'
  unfold hnd
  rw [hk.gen k (h2 k hk').2]
theorem HeldBy.take {lk : L.St} {l : List Int} (h : HeldBy lk l) {n : Nat} (hn : n < 4) (ho : lk.op n = false) : HeldBy (L.take lk n) (l ++ [(n : Int) + 4 * (lk.gen n : Int)]) := by
  obtain ⟨ks, h1, h2, h3, h4⟩ := h
  have hni : n ∉ ks := fun c => by have := (h2 n c).2; rw [ho] at this; cases this
  refine ⟨n :: ks, List.nodup_cons.2 ⟨hni, h1⟩, ?_, ?_, ?_⟩
  · intro k hk
    rcases List.mem_cons.1 hk with e | e
    · subst e; exact ⟨hn, by simp [L.take, L.updB]⟩
    · refine ⟨(h2 k e).1, ?_⟩
      show L.updB lk.op n true k = true
      simp [L.updB, (h2 k e).2]
  · intro k hk4 hok
    have : L.updB lk.op n true k = true := hok
    simp only [L.updB] at this
    by_cases e : k = n
    · subst e; simp
    · rw [if_neg e] at this
      simp [h3 k hk4 this]
  · rw [List.reverse_append, h4]
    rfl
theorem held_acq {lk : L.St} {l : List Int} (h : HeldBy lk l) (hc : l.length = lk.cnt) (k : Int) : HeldBy (L.acq lk k).2.2 (held1 l (L.acq lk k)) ∧ (held1 l (L.acq lk k)).length = (L.acq lk k).2.2.cnt := by
  by_cases hk : 0 ≤ k ∧ k < 4
  · obtain ⟨n, rfl⟩ : ∃ n : Nat, k = (n : Int) := ⟨k.toNat, by omega⟩
    have hn : n < 4 := by omega
    rcases ho : lk.op n with _ | _
    · rw [acq_take hn ho]
      unfold held1
      rw [if_pos rfl]
      refine ⟨h.take hn ho, ?_⟩
      simp only
      rw [L.cnt_take hn ho, ← hc]
      simp
    · rw [acq_held hn ho]
      unfold held1
      rw [if_neg (by simp)]
      exact ⟨h, hc⟩
  · rw [acq_out hk]
    unfold held1
    rw [if_neg (by simp)]
    exact ⟨h, hc⟩

/-- All are given back, whatever the trace. -/
theorem rel_op (g : Nat → Nat) (hg : ∀ k, g k < 4 ∨ 4 ≤ k) : ∀ (ks : List Nat) (st : L.St), ks.Nodup → (∀ k ∈ ks, k < 4 ∧ st.op k = true ∧ st.gen k = g k) →
    ∀ k, (relAll (ks.map (hnd g)) st).op k = (st.op k && !decide (k ∈ ks))
  | [], st, _, _, k => by simp [relAll]
  | n :: ks, st, hnp, hk, k => by
    obtain ⟨h1, h2, h3⟩ := hk n (by simp)
    have hg4 : g n < 4 := by rcases hg n with h | h <;> omega
    obtain ⟨hn, hnd'⟩ := List.nodup_cons.1 hnp
    have e : relAll ((n :: ks).map (hnd g)) st = relAll (ks.map (hnd g)) (L.give st n) := by
      show relAll (ks.map (hnd g)) (L.rel st ((n : Int) + 4 * (g n : Int))).2 = _
      rw [rel_own h1 h2 h3 hg4]
    rw [e, rel_op g hg ks (L.give st n) hnd' (fun j hj => by
      obtain ⟨a1, a2, a3⟩ := hk j (by simp [hj])
      have hne : j ≠ n := fun c => by subst c; exact hn hj
      refine ⟨a1, ?_, (L.gen_give_other st hne).trans a3⟩
      show L.updB st.op n false j = true
      simp [L.updB, hne, a2])]
    show (L.updB st.op n false k && _) = _
    simp only [L.updB]
    by_cases c : k = n
    · subst c; simp
    · simp [c]
theorem held_drop {lk : L.St} (ok : lk.Ok) {l : List Int} (h : HeldBy lk l) : ∀ k, k < 4 → (relAll l.reverse lk).op k = false := by
  obtain ⟨ks, h1, h2, h3, h4⟩ := h
  intro k hk
  rw [h4, rel_op lk.gen (fun k => by by_cases c : k < 4; exact .inl (ok.gen k c); exact .inr (by omega)) ks lk h1 (fun j hj => ⟨(h2 j hj).1, (h2 j hj).2, rfl⟩)]
  rcases ho : lk.op k with _ | _
  · rfl
  · simp [h3 k hk ho]
theorem cnt_none {lk : L.St} (h : ∀ k, k < 4 → lk.op k = false) : lk.cnt = 0 := by
  unfold L.St.cnt
  rw [h 0 (by omega), h 1 (by omega), h 2 (by omega), h 3 (by omega)]
  rfl
theorem held_none {lk : L.St} (h : ∀ k, k < 4 → lk.op k = false) : HeldBy lk [] := ⟨[], by simp, by simp, (fun k hk ho => by rw [h k hk] at ho; cases ho), rfl⟩
theorem cnt_kept {lk lk' : L.St} (h : Kept lk lk') : lk'.cnt = lk.cnt := by unfold L.St.cnt; rw [h.op]

structure KP (w0 w : World) (b : LB) (P pB : Nat) (s : Led) (v : Value) (l : List Int) : Prop where
  r : LR w b s
  g : GH w P s.bal s.un s.lk.op v
  ow : OwnI w w0.heap.size v l
  hl : HeldBy s.lk l
  cn : l.length = s.lk.cnt
  pb : At w pB 0 (.pointer (some ⟨b.T, 0, none⟩))
  pn : w0.heap.size ≤ pB
  lo : ∀ i, SL b i → w0.heap.size ≤ i ∧ i ≠ pB ∧ i ≠ P
  gp : w0.heap.size ≤ P ∧ P ≠ pB
  os : ∀ k, v.ownBlock = some k → ¬ SL b k ∧ k ≠ P ∧ k ≠ pB
  f : Fr (fun _ => False) w0 w
section
variable {w0 w w' : World} {b : LB} {P pB : Nat} {s s' : Led} {v v' : Value} {l l' : List Int}
theorem KP.turn (h : KP w0 w b P pB s v l) (hf : Fr (fun i => SL b i ∨ i = P ∨ v.ownBlock = some i) w w') (r : LR w' b s') (g : GH w' P s'.bal s'.un s'.lk.op v') (ow : OwnI w' w0.heap.size v' l') (ho : ∀ q, v'.ownBlock = some q → v.ownBlock = some q ∨ w.heap.size ≤ q) (hl : HeldBy s'.lk l') (cn : l'.length = s'.lk.cnt) : KP w0 w' b P pB s' v' l' := by
  refine ⟨r, g, ow, hl, cn, h.pb.fr hf ?_, h.pn, h.lo, h.gp, fun q hq => ?_, h.f.then hf (fun i hi c => ?_)⟩
  · rintro (c | c | c)
    · exact (h.lo _ c).2.1 rfl
    · exact h.gp.2 c.symm
    · exact (h.os _ c).2.2 rfl
  · rcases ho q hq with c | c
    · exact h.os q c
    · exact ⟨fun d => by have := h.r.lt q d; omega, fun d => by have := h.g.lt; omega, fun d => by have := h.pb.lt; omega⟩
  · rcases c with c | c | c
    · have := (h.lo i c).1; omega
    · have := h.gp.1; omega
    · have := (h.ow.lt c).1; omega
theorem KP.quiet (h : KP w0 w b P pB s v l) (hf : Fr (fun _ => False) w w') : KP w0 w' b P pB s v l :=
  h.turn (hf.mono (fun _ _ h => h.elim)) (h.r.fr hf (fun _ _ h => h)) (h.g.fr hf (fun h => h)) (h.ow.fr hf (fun _ _ h => h)) (fun q hq => .inl hq) h.hl h.cn
theorem KP.aside (h : KP w0 w b P pB s v l) {q : Nat} (hq : ¬ SL b q ∧ q ≠ P ∧ q ≠ pB ∧ v.ownBlock ≠ some q ∧ w0.heap.size ≤ q) (hf : Fr (fun i => i = q) w w') : KP w0 w' b P pB s v l :=
  ⟨h.r.fr hf (fun i c e => hq.1 (e ▸ c)), h.g.fr hf (fun e => hq.2.1 e.symm), h.ow.fr hf (fun k hk e => hq.2.2.2.1 (e ▸ hk)), h.hl, h.cn, h.pb.fr hf (fun e => hq.2.2.1 e.symm), h.pn, h.lo, h.gp, h.os, h.f.then hf (fun i hi e => by have := hq.2.2.2.2; omega)⟩
end

theorem kp_new {w0 wa w2 w3 : World} {bT bC bR P pB : Nat} {b : LB} (h0 : Fr (fun _ => False) w0 wa) (hp : At wa pB 0 (.pointer (some ⟨bT, 0, none⟩))) (pn : w0.heap.size ≤ pB) (h3 : ∀ i, S3 bT bC bR i → w0.heap.size ≤ i ∧ i ≠ pB)
    (hT : b.T = bT) (hC : b.C = bC) (hR : b.R = bR) (lr : LR w2 b (led0 L.init)) (hl : ∀ i, S3L b i → wa.heap.size ≤ i) (f2 : Fr (fun _ => False) wa w2) (hP : w2.heap.size ≤ P) (g : GH w3 P (fun _ => 100) 0 (fun _ => false) (.slice none 0 0)) (f3 : Fr (fun _ => False) w2 w3) :
    KP w0 w3 b P pB (led0 L.init) (.slice none 0 0) [] := by
  subst hT hC hR
  have z0 := h0.size
  have z2 := f2.size
  have hpl := hp.lt
  refine ⟨lr.fr f3 (fun _ _ h => h), g, OwnI.nil _ _, held_init, by simp [led0, L.St.cnt, L.init, L.b1], (hp.fr f2 (fun h => h)).fr f3 (fun h => h), pn, ?_, ⟨by omega, by omega⟩, fun k hk => by simp [Value.ownBlock] at hk, (h0.trans f2).trans f3⟩
  intro i c
  have := lr.lt i c
  rcases c with c | c
  · have := hl i c
    exact ⟨by omega, by omega, by omega⟩
  · exact ⟨(h3 i c).1, (h3 i c).2, by omega⟩

/-- "open=" and the locks below k. -/
def opL (lk : L.St) : Nat → List UInt8
  | 0 => [111, 112, 101, 110, 61]
  | k + 1 => opL lk k ++ [L.openD lk k]
theorem opL_len (lk : L.St) : ∀ k, (opL lk k).length = 5 + k
  | 0 => rfl
  | k + 1 => by simp [opL, opL_len lk k]; omega
def shR (lk : L.St) : List UInt8 := [32, 103, 101, 110, 61] ++ [L.dig (lk.gen 0), L.dig (lk.gen 1), L.dig (lk.gen 2), L.dig (lk.gen 3)] ++ [32, 116, 114, 97, 99, 101, 61] ++ lk.tr
theorem show_open (lk : L.St) : L.showL lk = opL lk 4 ++ shR lk := by simp [L.showL, opL, shR]
theorem show_tail (lk : L.St) : L.showL lk = (opL lk 4 ++ ([32, 103, 101, 110, 61] ++ [L.dig (lk.gen 0), L.dig (lk.gen 1), L.dig (lk.gen 2), L.dig (lk.gen 3)])) ++ ([32, 116, 114, 97, 99, 101, 61] ++ lk.tr) := by simp [L.showL, opL]
theorem cut_head (a t : List UInt8) (W : World) : (Instr.slice 9 (.string (L.bs (a ++ t))) none (some (.int .i64 (a.length : Int))) none).run Try.prog W = .ok (.string (L.bs a)) W := by
  rw [run_slice_string_h W 9 _ Try.underlying9 .i64 (a.length : Int) (by omega) (by rw [Lbs_size]; simp; omega)]
  congr 2
  apply ByteArray.ext
  simp [L.bs]

end Go.Proofs.Qxb6500453a
