/- What Serve leaves, where no lock is held: plain facts, no Go. -/
import Derived.Test.Qxb6500452aZPlain2
import Derived.Test.Qxb6500452aGServe3
namespace Go.Proofs.Qxb6500452a
open Go Go.RowKit
set_option maxRecDepth 100000
set_option maxHeartbeats 1600000
set_option linter.unusedSimpArgs false
set_option linter.unusedVariables false

/-- An error that the ledger gives. -/
def Low (e : Int) : Prop := e = 0 ∨ (2 ≤ e ∧ e ≤ 7)
theorem low_chk (f t a : Int) : Low (chk f t a) := by
  unfold Low chk
  split
  · split <;> omega
  · omega
theorem low_pay (bal : Nat → Int) (f t : Nat) (a : Int) : Low (payE bal f t a) := by
  unfold Low payE
  split
  · omega
  · split <;> omega
theorem low_acq (s : L.St) (k : Int) : Low (L.acq s k).2.1 := by
  unfold Low L.acq
  split
  · split <;> simp
  · simp
theorem low_pair (s : L.St) (a b : Int) : Low (L.pair s a b).2.2.1 := by
  unfold Low L.pair
  split
  · split
    · split
      · simp
      · split
        · simp
        · split <;> simp
    · simp
  · simp
theorem chk_zero {f t a : Int} (h : chk f t a = 0) : 0 ≤ f ∧ f < 4 ∧ 0 ≤ t ∧ t < 4 ∧ f ≠ t := by
  unfold chk at h
  split at h
  · rename_i h1
    split at h
    · omega
    · simp [goodB] at h1
      omega
  · omega

theorem BK.lock {s0 : L.St} (hf : ∀ k, s0.op k = false) {x : BS} {ks : List Nat} (h : BK s0 x ks) {k : Nat} (hk : k < 4) (hl : ks.length ≤ 5) : ∃ ks', BK s0 (lock1 x k).2 ks' ∧ ks'.length ≤ ks.length + 1 ∧ (lock1 x k).1 = 0 := by
  by_cases c : k ∈ ks
  · rw [h.mine c]; exact ⟨ks, h, by omega, rfl⟩
  · obtain ⟨h1, h2⟩ := h.take hk c (hf k) hl
    exact ⟨k :: ks, h2, by simp, h1⟩
theorem BK.move {s0 : L.St} (hf : ∀ k, s0.op k = false) {x : BS} {ks : List Nat} (h : BK s0 x ks) (m : Mv) (hl : ks.length ≤ 4) : ∃ ks', BK s0 (move1 x m).2 ks' ∧ ks'.length ≤ ks.length + 2 ∧ Low (move1 x m).1 := by
  unfold move1
  by_cases hc : chk m.f m.t m.a ≠ 0
  · rw [if_pos hc]; exact ⟨ks, h, by omega, low_chk _ _ _⟩
  rw [if_neg hc]
  have hc0 : chk m.f m.t m.a = 0 := Classical.not_not.1 hc
  obtain ⟨f0, f4, t0, t4, ne⟩ := chk_zero hc0
  obtain ⟨k1, b1, l1, e1⟩ := h.lock hf (k := m.f.toNat) (by omega) (by omega)
  rw [if_neg (by rw [e1]; simp)]
  obtain ⟨k2, b2, l2, e2⟩ := b1.lock hf (k := m.t.toNat) (by omega) (by omega)
  rw [if_neg (by rw [e2]; simp)]
  exact ⟨k2, b2.pay _ _ _, by omega, low_pay _ _ _ _⟩
theorem BK.run {s0 : L.St} (hf : ∀ k, s0.op k = false) : ∀ (ms : List Mv) (i : Nat) (x : BS) (ks : List Nat), BK s0 x ks → ks.length + 2 * ms.length ≤ 6 → ∃ ks', BK s0 (runB i ms x).2.2 ks' ∧ ks'.length ≤ 6 ∧ Low (runB i ms x).2.1
  | [], i, x, ks, h, hl => ⟨ks, h, by simpa using hl, .inl rfl⟩
  | m :: ms, i, x, ks, h, hl => by
    simp at hl
    obtain ⟨k1, b1, l1, e1⟩ := h.move hf m (by omega)
    unfold runB
    by_cases hc : (move1 x m).1 ≠ 0
    · rw [if_pos hc]; exact ⟨k1, b1, by omega, e1⟩
    · rw [if_neg hc]
      exact BK.run hf ms (i + 1) _ k1 b1 (by omega)

def Free (s : Led) : Prop := ∀ k, s.lk.op k = false
theorem free_kept {s s' : Led} (h : Free s) (hk : Kept s.lk s'.lk) : Free s' := fun k => by rw [hk.op]; exact h k
theorem bat_free {s : Led} (ok : s.lk.Ok) (h : Free s) (ms : List Mv) : Free (batS s ms) ∧ (batE s ms = 1 ∨ Low (batE s ms)) ∧ (batE s ms = 1 → batS s ms = s) := by
  by_cases hl : 3 < ms.length
  · unfold batS batE
    rw [if_pos hl, if_pos hl]
    exact ⟨h, .inl rfl, fun _ => rfl⟩
  · have hf : ∀ k, (L.clear s.lk).op k = false := h
    obtain ⟨ks, b, l, e⟩ := BK.run hf ms 0 s.start [] (bk_start s) (by simp; omega)
    have kp := (b.back (L.clear_ok ok) l).1
    have hE : batE s ms = (runB 0 ms s.start).2.1 := by unfold batE; rw [if_neg hl]
    refine ⟨?_, .inr (hE ▸ e), fun e1 => ?_⟩
    · have hs : (batS s ms).lk = relAll (runB 0 ms s.start).2.2.hs (runB 0 ms s.start).2.2.lk := by
        unfold batS endB
        rw [if_neg hl]
        split <;> rfl
      intro k
      rw [hs, kp.op]
      exact h k
    · rw [hE] at e1
      unfold Low at e
      omega
theorem tr_free' {s : Led} (ok : s.lk.Ok) (h : Free s) (f t a : Int) : Free (trS s f t a) ∧ Low (trE s f t a) := by
  refine ⟨?_, ?_⟩
  · unfold trS
    by_cases hc : chk f t a ≠ 0
    · rw [if_pos hc]; exact h
    rw [if_neg hc]
    obtain ⟨f0, f4, t0, t4, ne⟩ := chk_zero (Classical.not_not.1 hc)
    obtain ⟨fn, rfl⟩ : ∃ n : Nat, f = (n : Int) := ⟨f.toNat, by omega⟩
    obtain ⟨tn, rfl⟩ : ∃ n : Nat, t = (n : Int) := ⟨t.toNat, by omega⟩
    have hf : ∀ k, (L.clear s.lk).op k = false := h
    have hp := pair_ok (st := L.clear s.lk) (f := fn) (t := tn) (by omega) (by omega) (by omega) (hf _) (hf _)
    rw [if_neg (by unfold prE; rw [hp]; simp)]
    have kp := (tr_free (st := L.clear s.lk) (L.clear_ok ok) rfl (f := fn) (t := tn) (by omega) (by omega) (by omega) (hf _) (hf _)).1
    intro k
    show (relAll _ (prS s (fn : Int) (tn : Int))).op k = false
    unfold prS
    rw [kp.op]
    exact h k
  · unfold trE
    split
    · exact low_chk _ _ _
    · split
      · exact low_pair _ _ _
      · exact low_pay _ _ _ _
theorem cen_free {s : Led} (ok : s.lk.Ok) (h : Free s) (ht : sum4 s.bal = 400) : Free (cenS s) ∧ Low (cenA s).2.1 := by
  have c1 := (ck_start ok).next (by omega) (h 0)
  have c2 := c1.next (by omega) (h 1)
  have c3 := c2.next (by omega) (h 2)
  have c4 := c3.next (by omega) (h 3)
  have e := c4.done ht
  refine ⟨fun k => ?_, ?_⟩
  · show (cenA s).2.2.op k = false
    rw [e]
    rw [c4.kp.op]
    exact h k
  · rw [e]; exact .inl rfl
theorem one_free' {s : Led} (ok : s.lk.Ok) (h : Free s) (k : Int) : Free (oneS s k) ∧ Low (acqE s k) := ⟨free_kept h (oneS_kept ok k).1, low_acq _ _⟩
theorem spl_free {s : Led} (ok : s.lk.Ok) (h : Free s) (k p : Int) : Free (splS s k p) ∧ Low (splE s k p) := by
  refine ⟨free_kept h (splS_kept ok k p).1, ?_⟩
  unfold splE
  split
  · exact .inr ⟨by omega, by omega⟩
  · exact low_acq _ _

theorem decP_verb {s : ByteArray} {c : Cmd} (h : decP s = .ok c) : c.verb = byU s 0 := by
  unfold decP at h
  split at h
  · cases h
  · rename_i x h1
    have hx : x.1 = byU s 0 := by
      unfold vbP at h1
      split at h1
      · cases h1; rfl
      · cases h1
    rw [← hx]
    split at h
    · split at h
      · cases h
      · cases h; rfl
    split at h
    · split at h
      · cases h
      · split at h
        · cases h
        · cases h; rfl
    split at h
    · split at h
      · cases h
      · split at h
        · cases h
        · split at h
          · cases h
          · cases h; rfl
    split at h
    · split at h
      · cases h
      · split at h
        · cases h
        · cases h; rfl
    split at h
    · split at h
      · cases h
      · split at h
        · cases h
        · cases h; rfl
    · cases h

/-- What the law asks of Serve. -/
structure SrvOk (s : Led) (req : ByteArray) : Prop where
  free : Free (srv s req).2.2
  p : (srv s req).2.1 ≠ 10
  bad : (srv s req).2.1 = 8 → ∃ q : Nat, q ≤ req.size ∧ q ≤ 20 ∧ (srv s req).1 = atA q
  un : (srv s req).2.1 = 1 ∨ (srv s req).2.1 = 8 → (srv s req).2.2 = s
  nm : byU req 0 = 78 → (srv s req).2.2 = s
theorem low_ok {e : Int} (h : Low e) : e ≠ 10 ∧ e ≠ 8 ∧ e ≠ 1 := by unfold Low at h; omega
theorem srv_ok {s : Led} (ok : s.lk.Ok) (h : Free s) (ht : sum4 s.bal = 400) (req : ByteArray) : SrvOk s req := by
  by_cases hl : 20 < req.size
  · have e : srv s req = (⟨#[]⟩, 1, s) := by unfold srv; rw [if_pos hl]
    exact ⟨by rw [e]; exact h, by rw [e]; simp, by rw [e]; simp, by rw [e]; simp, by rw [e]; simp⟩
  rcases hd : decP req with q | c
  · have e : srv s req = (atA q, 8, s) := by unfold srv; rw [if_neg hl, hd]
    have hq := decP_le hd
    exact ⟨by rw [e]; exact h, by rw [e]; simp, fun _ => ⟨q, hq, by omega, by rw [e]⟩, by rw [e]; simp, by rw [e]; simp⟩
  have key : Free (runS s c) ∧ (∀ x, runP s c = some x → x.2 = 1 ∨ Low x.2) ∧ (∀ x, runP s c = some x → x.2 = 1 → runS s c = s) ∧ (c.verb = 78 → runS s c = s) := by
    unfold runP runS
    by_cases v1 : c.verb = 65
    · simp only [if_pos v1]
      obtain ⟨a, b⟩ := cen_free ok h ht
      refine ⟨a, fun x hx => ?_, fun x hx hx1 => ?_, fun e => by rw [v1] at e; cases e⟩
      · cases hx; exact .inr b
      · cases hx; exact absurd hx1 (low_ok b).2.2
    simp only [if_neg v1]
    by_cases v2 : c.verb = 66
    · simp only [if_pos v2]
      obtain ⟨a, b⟩ := one_free' ok h c.m.f
      refine ⟨a, fun x hx => ?_, fun x hx hx1 => ?_, fun e => by rw [v2] at e; cases e⟩
      · cases hx; exact .inr b
      · cases hx; exact absurd hx1 (low_ok b).2.2
    simp only [if_neg v2]
    by_cases v3 : c.verb = 78
    · simp only [if_pos v3]
      refine ⟨h, fun x hx => ?_, fun x hx hx1 => trivial, fun _ => trivial⟩
      split at hx
      · cases hx; exact .inr (.inl rfl)
      · cases hx
    simp only [if_neg v3]
    by_cases v4 : c.verb = 83
    · simp only [if_pos v4]
      by_cases hz : c.m.t = 0 ∧ acqE s c.m.f = 0
      · simp only [if_pos hz]
        exact ⟨(one_free' ok h c.m.f).1, (fun x hx => by cases hx), (fun x hx => by cases hx), fun e => absurd e v3⟩
      · simp only [if_neg hz]
        obtain ⟨a, b⟩ := spl_free ok h c.m.f c.m.t
        refine ⟨a, fun x hx => ?_, fun x hx hx1 => ?_, fun e => absurd e v3⟩
        · cases hx; exact .inr b
        · cases hx; exact absurd hx1 (low_ok b).2.2
    simp only [if_neg v4]
    by_cases v5 : c.verb = 84
    · simp only [if_pos v5]
      obtain ⟨a, b⟩ := tr_free' ok h c.m.f c.m.t c.m.a
      refine ⟨a, fun x hx => ?_, fun x hx hx1 => ?_, fun e => absurd e v3⟩
      · cases hx; exact .inr b
      · cases hx; exact absurd hx1 (low_ok b).2.2
    simp only [if_neg v5]
    obtain ⟨a, b, b1⟩ := bat_free ok h c.ms
    refine ⟨a, fun x hx => ?_, fun x hx hx1 => ?_, fun e => absurd e v3⟩
    · cases hx; exact b
    · cases hx; exact b1 hx1
  obtain ⟨k1, k2, k3, k4⟩ := key
  have hvb := decP_verb hd
  rcases hr : runP s c with _ | x
  · have e : srv s req = (⟨#[]⟩, 9, runS s c) := by unfold srv; rw [if_neg hl, hd]; simp only; rw [hr]
    exact ⟨by rw [e]; exact k1, by rw [e]; simp, by rw [e]; simp, by rw [e]; simp, fun n => by rw [e]; exact k4 (hvb.trans n)⟩
  · have e : srv s req = (x.1, x.2, runS s c) := by unfold srv; rw [if_neg hl, hd]; simp only; rw [hr]
    have k2' := k2 x hr
    have n10 : x.2 ≠ 10 := by rcases k2' with h | h; omega; exact (low_ok h).1
    have n8 : x.2 ≠ 8 := by rcases k2' with h | h; omega; exact (low_ok h).2.1
    refine ⟨by rw [e]; exact k1, by rw [e]; exact n10, fun h8 => ?_, fun h18 => ?_, fun n => by rw [e]; exact k4 (hvb.trans n)⟩
    · rw [e] at h8; exact absurd h8 n8
    · rw [e] at h18 ⊢
      rcases h18 with h1 | h8
      · exact k3 x hr h1
      · exact absurd h8 n8

theorem cnt_free {s : Led} (h : Free s) : s.lk.cnt = 0 := by
  have h0 := h 0
  have h1 := h 1
  have h2 := h 2
  have h3 := h 3
  simp [L.St.cnt, h0, h1, h2, h3, L.b1]
theorem free_init : Free (led0 L.init) := fun _ => rfl

end Go.Proofs.Qxb6500452a
