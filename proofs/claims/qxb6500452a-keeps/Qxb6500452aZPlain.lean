/- What a step leaves of the locks: plain facts, no Go. -/
import Derived.Test.Qxb6500452aWBat1
namespace Go.Proofs.Qxb6500452a
open Go Go.RowKit
set_option maxRecDepth 100000
set_option maxHeartbeats 1600000
set_option linter.unusedSimpArgs false
set_option linter.unusedVariables false

/-- The locks that are held are as they were. -/
structure Kept (lk lk' : L.St) : Prop where
  op : lk'.op = lk.op
  gen : ∀ k, lk.op k = true → lk'.gen k = lk.gen k
theorem Kept.refl (lk : L.St) : Kept lk lk := ⟨rfl, fun _ _ => rfl⟩
theorem Kept.trans {a b c : L.St} (h : Kept a b) (h' : Kept b c) : Kept a c := ⟨h'.op.trans h.op, fun k hk => (h'.gen k (by rw [h.op]; exact hk)).trans (h.gen k hk)⟩
theorem kept_clear (lk : L.St) : Kept lk (L.clear lk) := ⟨rfl, fun _ _ => rfl⟩

def hnd (g : Nat → Nat) (k : Nat) : Int := (k : Int) + 4 * (g k : Int)
def evs (c : UInt8) : List Nat → List UInt8
  | [] => []
  | k :: ks => c :: L.dig k :: evs c ks
theorem evs_append (c : UInt8) : ∀ a b, evs c (a ++ b) = evs c a ++ evs c b
  | [], b => rfl
  | k :: a, b => by simp [evs, evs_append c a b]
theorem evs_len (c : UInt8) : ∀ a, (evs c a).length = 2 * a.length
  | [] => rfl
  | k :: a => by simp [evs, evs_len c a]; omega

theorem acq_take {st : L.St} {n : Nat} (hn : n < 4) (ho : st.op n = false) : L.acq st (n : Int) = ((n : Int) + 4 * (st.gen n : Int), 0, L.take st n) := by
  unfold L.acq; rw [if_pos ⟨by omega, by omega⟩]; simp [ho]
theorem acq_held {st : L.St} {n : Nat} (hn : n < 4) (ho : st.op n = true) : L.acq st (n : Int) = (0, 4, st) := by
  unfold L.acq; rw [if_pos ⟨by omega, by omega⟩]; simp [ho]
theorem acq_out {st : L.St} {k : Int} (hk : ¬ (0 ≤ k ∧ k < 4)) : L.acq st k = (0, 2, st) := by
  unfold L.acq; rw [if_neg hk]
theorem rel_own {st : L.St} {n : Nat} (hn : n < 4) (ho : st.op n = true) {g : Nat} (hg : st.gen n = g) (hg4 : g < 4) : L.rel st ((n : Int) + 4 * (g : Int)) = (0, L.give st n) := by
  unfold L.rel
  rw [if_pos ⟨by omega, by omega⟩]
  have e : (((n : Int) + 4 * (g : Int)) % 4).toNat = n := by omega
  rw [e, if_pos (by rw [L.hdl_open ho, hg])]
theorem noteL_room {tr : List UInt8} (h : tr.length < 24) (c : UInt8) (k : Nat) : L.noteL tr c k = tr ++ [c, L.dig k] := by unfold L.noteL; rw [if_pos h]

theorem updB_back {f : Nat → Bool} {n : Nat} (h : f n = false) : L.updB (L.updB f n true) n false = f := by
  funext k; simp only [L.updB]; by_cases e : k = n
  · subst e; simp [h]
  · simp [e]
theorem kept_one {st : L.St} {n : Nat} (ho : st.op n = false) : Kept st (L.give (L.take st n) n) := by
  refine ⟨updB_back ho, fun k hk => ?_⟩
  have : k ≠ n := fun e => by subst e; rw [ho] at hk; cases hk
  exact L.gen_give_other _ this
theorem one_state {st : L.St} (hk : st.Ok) {n : Nat} (hn : n < 4) (ho : st.op n = false) : (L.rel (L.acq st (n : Int)).2.2 (L.acq st (n : Int)).1).2 = L.give (L.take st n) n := by
  rw [acq_take hn ho]
  simp only
  rw [rel_own (st := L.take st n) hn (by simp [L.take, L.updB]) (g := st.gen n) rfl (hk.gen n hn)]
theorem one_tr {st : L.St} {n : Nat} (h : st.tr.length + 4 ≤ 24) : (L.give (L.take st n) n).tr = st.tr ++ [65, L.dig n, 82, L.dig n] := by
  show L.noteL (L.noteL st.tr 65 n) 82 n = _
  rw [noteL_room (tr := st.tr) (by omega), noteL_room (by simp; omega)]
  simp

/-- One lock, taken and given back. -/
theorem one_out {s : Led} {k : Int} (h : ¬ (0 ≤ k ∧ k < 4)) : acqE s k = 2 ∧ oneS s k = clr s := by
  have : acqE s k = 2 := by unfold acqE; rw [acq_out h]
  exact ⟨this, by unfold oneS; rw [if_neg (by rw [this]; decide)]⟩
theorem one_held {s : Led} {n : Nat} (hn : n < 4) (ho : s.lk.op n = true) : acqE s (n : Int) = 4 ∧ oneS s (n : Int) = clr s := by
  have : acqE s (n : Int) = 4 := by unfold acqE; rw [acq_held hn (by exact ho)]
  exact ⟨this, by unfold oneS; rw [if_neg (by rw [this]; decide)]⟩
theorem one_free {s : Led} (hk : s.lk.Ok) {n : Nat} (hn : n < 4) (ho : s.lk.op n = false) : acqE s (n : Int) = 0 ∧ oneS s (n : Int) = ⟨L.give (L.take (L.clear s.lk) n) n, s.bal, s.un⟩ := by
  have : acqE s (n : Int) = 0 := by unfold acqE; rw [acq_take hn (by exact ho)]
  exact ⟨this, by unfold oneS; rw [if_pos this, one_state (L.clear_ok hk) hn (by exact ho)]⟩
theorem kept_clr (s : Led) : Kept s.lk (clr s).lk := kept_clear _
theorem oneS_kept {s : Led} (hk : s.lk.Ok) (k : Int) : Kept s.lk (oneS s k).lk ∧ (oneS s k).bal = s.bal ∧ (oneS s k).un = s.un := by
  by_cases h : 0 ≤ k ∧ k < 4
  · obtain ⟨n, rfl⟩ : ∃ n : Nat, k = (n : Int) := ⟨k.toNat, by omega⟩
    have hn : n < 4 := by omega
    rcases ho : s.lk.op n with _ | _
    · rw [(one_free hk hn ho).2]
      exact ⟨(kept_clear _).trans (kept_one (by exact ho)), rfl, rfl⟩
    · rw [(one_held hn ho).2]
      exact ⟨kept_clr s, rfl, rfl⟩
  · rw [(one_out h).2]
    exact ⟨kept_clr s, rfl, rfl⟩
theorem splS_kept {s : Led} (hk : s.lk.Ok) (k p : Int) : Kept s.lk (splS s k p).lk ∧ (splS s k p).bal = s.bal ∧ (splS s k p).un = s.un := by
  unfold splS
  split
  · exact ⟨kept_clr s, rfl, rfl⟩
  · exact oneS_kept hk k

/-- A batch's own locks, the last taken first. -/
structure BK (s0 : L.St) (x : BS) (ks : List Nat) : Prop where
  nd : ks.Nodup
  lt : ∀ k ∈ ks, k < 4
  fr : ∀ k ∈ ks, s0.op k = false
  op : ∀ k, x.lk.op k = (s0.op k || decide (k ∈ ks))
  gen : x.lk.gen = s0.gen
  tr : x.lk.tr = evs 65 ks.reverse
  hs : x.hs = ks.map (hnd s0.gen)
  mn : ∀ k, x.mine k = decide (k ∈ ks)

theorem bk_start (s : Led) : BK (L.clear s.lk) s.start [] :=
  ⟨by simp, by simp, by simp, fun k => by simp [Led.start], rfl, rfl, rfl, fun k => by simp [Led.start]⟩
theorem BK.mine {s0 : L.St} {x : BS} {ks : List Nat} (h : BK s0 x ks) {k : Nat} (hk : k ∈ ks) : lock1 x k = (0, x) := by
  unfold lock1; rw [if_pos (by rw [h.mn]; simp [hk])]
theorem BK.held {s0 : L.St} {x : BS} {ks : List Nat} (h : BK s0 x ks) {k : Nat} (hk4 : k < 4) (ho : s0.op k = true) : lock1 x k = (4, x) := by
  have hn : k ∉ ks := fun c => by rw [h.fr k c] at ho; cases ho
  unfold lock1
  rw [if_neg (by rw [h.mn]; simp [hn]), acq_held hk4 (by rw [h.op, ho]; rfl), if_neg (by simp)]
theorem BK.take {s0 : L.St} {x : BS} {ks : List Nat} (h : BK s0 x ks) {k : Nat} (hk4 : k < 4) (hn : k ∉ ks) (ho : s0.op k = false) (hl : ks.length ≤ 5) : (lock1 x k).1 = 0 ∧ BK s0 (lock1 x k).2 (k :: ks) := by
  have hf : x.lk.op k = false := by rw [h.op, ho]; simp [hn]
  unfold lock1
  rw [if_neg (by rw [h.mn]; simp [hn]), acq_take hk4 hf, if_pos rfl]
  refine ⟨rfl, ?_⟩
  refine ⟨List.nodup_cons.2 ⟨hn, h.nd⟩, ?_, ?_, fun j => ?_, h.gen, ?_, ?_, fun j => ?_⟩
  · intro j hj
    rcases List.mem_cons.1 hj with e | e
    · subst e; exact hk4
    · exact h.lt j e
  · intro j hj
    rcases List.mem_cons.1 hj with e | e
    · subst e; exact ho
    · exact h.fr j e
  · show L.updB x.lk.op k true j = _
    simp only [L.updB]
    by_cases e : j = k
    · subst e; simp
    · rw [if_neg e, h.op]; simp [e]
  · show L.noteL x.lk.tr 65 k = _
    rw [h.tr, noteL_room (by rw [evs_len]; simp; omega), List.reverse_cons, evs_append]
    rfl
  · show ((k : Int) + 4 * (x.lk.gen k : Int)) :: x.hs = _
    rw [h.gen, h.hs]; rfl
  · show L.updB x.mine k true j = _
    simp only [L.updB]
    by_cases e : j = k
    · subst e; simp
    · rw [if_neg e, h.mn]; simp [e]
theorem BK.pay {s0 : L.St} {x : BS} {ks : List Nat} (h : BK s0 x ks) (f t : Nat) (a : Int) : BK s0 (pay1 x f t a) ks := ⟨h.nd, h.lt, h.fr, h.op, h.gen, h.tr, h.hs, h.mn⟩

/-- All are given back. -/
theorem rel_all (g : Nat → Nat) (hg : ∀ k, g k < 4 ∨ 4 ≤ k) : ∀ (ks : List Nat) (st : L.St), ks.Nodup → (∀ k ∈ ks, k < 4 ∧ st.op k = true ∧ st.gen k = g k) → st.tr.length + 2 * ks.length ≤ 24 →
    (∀ k, (relAll (ks.map (hnd g)) st).op k = (st.op k && !decide (k ∈ ks))) ∧ (∀ k, k ∉ ks → (relAll (ks.map (hnd g)) st).gen k = st.gen k) ∧ (relAll (ks.map (hnd g)) st).tr = st.tr ++ evs 82 ks
  | [], st, _, _, _ => ⟨fun k => by simp [relAll], fun k _ => rfl, by simp [relAll, evs]⟩
  | n :: ks, st, hnp, hk, hl => by
    obtain ⟨h1, h2, h3⟩ := hk n (by simp)
    have hg4 : g n < 4 := by rcases hg n with h | h <;> omega
    obtain ⟨hn, hnd'⟩ := List.nodup_cons.1 hnp
    have e : relAll ((n :: ks).map (hnd g)) st = relAll (ks.map (hnd g)) (L.give st n) := by
      show relAll (ks.map (hnd g)) (L.rel st ((n : Int) + 4 * (g n : Int))).2 = _
      rw [rel_own h1 h2 h3 hg4]
    rw [e]
    have hlen : st.tr.length + 2 * (ks.length + 1) ≤ 24 := by simpa using hl
    have tr1 : (L.give st n).tr = st.tr ++ [82, L.dig n] := noteL_room (by omega) _ _
    obtain ⟨i1, i2, i3⟩ := rel_all g hg ks (L.give st n) hnd' (fun k hk' => by
      obtain ⟨a1, a2, a3⟩ := hk k (by simp [hk'])
      have hne : k ≠ n := fun c => by subst c; exact hn hk'
      refine ⟨a1, ?_, (L.gen_give_other st hne).trans a3⟩
      show L.updB st.op n false k = true
      simp [L.updB, hne, a2]) (by rw [tr1]; simp; omega)
    refine ⟨fun k => ?_, fun k hk' => ?_, ?_⟩
    · rw [i1]
      show (L.updB st.op n false k && _) = _
      simp only [L.updB]
      by_cases c : k = n
      · subst c; simp
      · simp [c]
    · simp at hk'
      rw [i2 k hk'.2]
      exact L.gen_give_other st hk'.1
    · rw [i3, tr1]
      simp [evs]

theorem BK.back {s0 : L.St} (ok : s0.Ok) {x : BS} {ks : List Nat} (h : BK s0 x ks) (hl : ks.length ≤ 6) : Kept s0 (relAll x.hs x.lk) ∧ (relAll x.hs x.lk).tr = evs 65 ks.reverse ++ evs 82 ks := by
  obtain ⟨i1, i2, i3⟩ := rel_all s0.gen (fun k => by by_cases c : k < 4; exact .inl (ok.gen k c); exact .inr (by omega)) ks x.lk h.nd (fun k hk => ⟨h.lt k hk, by rw [h.op]; simp [hk], by rw [h.gen]⟩) (by rw [h.tr, evs_len]; simp; omega)
  rw [h.hs]
  refine ⟨⟨?_, fun k hk => ?_⟩, by rw [i3, h.tr]⟩
  · funext k
    rw [i1, h.op]
    by_cases c : k ∈ ks
    · simp [c, h.fr k c]
    · simp [c]
  · have c : k ∉ ks := fun c => by rw [h.fr k c] at hk; cases hk
    rw [i2 k c, h.gen]

end Go.Proofs.Qxb6500452a
