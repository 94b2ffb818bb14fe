/- Batch. -/
import Derived.Test.Qxb6500452aVLeave
namespace Go.Proofs.Qxb6500452a
open Go Go.RowKit
set_option maxRecDepth 100000
set_option maxHeartbeats 3200000
set_option linter.unusedSimpArgs false
set_option linter.unusedVariables false

structure Mv where
  f : Int
  t : Int
  a : Int
def Mv.val (m : Mv) : Value := .agg #[.int .i64 m.f, .int .i64 m.t, .int .i64 m.a]

/-- A batch under way: the locks, those that are its own, their handles (the last taken first), the balances, the journal. -/
structure BS where
  lk : L.St
  mine : Nat → Bool
  hs : List Int
  bal : Nat → Int
  jr : List (Nat × Int)

def lock1 (s : BS) (k : Nat) : Int × BS :=
  if s.mine k = true then (0, s) else
  if (L.acq s.lk (k : Int)).2.1 = 0 then (0, ⟨(L.acq s.lk (k : Int)).2.2, L.updB s.mine k true, (L.acq s.lk (k : Int)).1 :: s.hs, s.bal, s.jr⟩) else ((L.acq s.lk (k : Int)).2.1, s)
def pay1 (s : BS) (f t : Nat) (a : Int) : BS := ⟨s.lk, s.mine, s.hs, payB s.bal f t a, payJ s.bal f t a s.jr⟩
def move1 (s : BS) (m : Mv) : Int × BS :=
  if chk m.f m.t m.a ≠ 0 then (chk m.f m.t m.a, s) else
  if (lock1 s m.f.toNat).1 ≠ 0 then lock1 s m.f.toNat else
  if (lock1 (lock1 s m.f.toNat).2 m.t.toNat).1 ≠ 0 then lock1 (lock1 s m.f.toNat).2 m.t.toNat else
  (payE (lock1 (lock1 s m.f.toNat).2 m.t.toNat).2.bal m.f.toNat m.t.toNat m.a, pay1 (lock1 (lock1 s m.f.toNat).2 m.t.toNat).2 m.f.toNat m.t.toNat m.a)
def runB : Nat → List Mv → BS → Nat × Int × BS
  | i, [], s => (i, 0, s)
  | i, m :: ms, s => if (move1 s m).1 ≠ 0 then (i, (move1 s m).1, (move1 s m).2) else runB (i + 1) ms (move1 s m).2

def sum4 (bal : Nat → Int) : Int := bal 0 + bal 1 + bal 2 + bal 3
structure Led where
  lk : L.St
  bal : Nat → Int
  un : Nat
def Led.start (s : Led) : BS := ⟨L.clear s.lk, fun _ => false, [], s.bal, []⟩
def endB (s : Led) (r : Nat × Int × BS) : Led :=
  if r.2.1 = 0 then ⟨relAll r.2.2.hs r.2.2.lk, r.2.2.bal, s.un⟩ else ⟨relAll r.2.2.hs r.2.2.lk, undo r.2.2.bal r.2.2.jr, if r.2.2.jr = [] then s.un else bump s.un⟩
def batN (s : Led) (ms : List Mv) : Int := if 3 < ms.length then 0 else ((runB 0 ms s.start).1 : Int)
def batE (s : Led) (ms : List Mv) : Int := if 3 < ms.length then 1 else (runB 0 ms s.start).2.1
def batS (s : Led) (ms : List Mv) : Led := if 3 < ms.length then s else endB s (runB 0 ms s.start)

/-- The ledger between calls. -/
structure LR (w : World) (b : LB) (s : Led) : Prop where
  rt : RT w b.T b.C b.R s.lk
  lv : LV w b s.bal [] s.un
  bl : ∀ k, k < 4 → 0 ≤ s.bal k ∧ s.bal k ≤ 250
  ul : s.un ≤ 99
  tot : sum4 s.bal = 400

/-- A list of moves that can be read. -/
def MvsAt (w : World) (a : Option Addr) (ms : List Mv) : Prop :=
  ms = [] ∨ ∃ B off, a = some ⟨B, off, none⟩ ∧ B < w.heap.size ∧ ∀ i (h : i < ms.length), w.cell? ⟨B, off + i * 3, none⟩ = some (.int .i64 ms[i].f) ∧ w.cell? ⟨B, off + i * 3 + 1, none⟩ = some (.int .i64 ms[i].t) ∧ w.cell? ⟨B, off + i * 3 + 2, none⟩ = some (.int .i64 ms[i].a)

/-- The state of a batch under way. -/
structure Stt (w0 w : World) (b : LB) (x : BS) (un pn pe pd px pT pm : Nat) (e : Int) : Prop where
  rt : RT w b.T b.C b.R x.lk
  lv : LV w b x.bal x.jr un
  bx : Bx w b pn pe pd px pT 0 e false
  mn : ∀ k, k < 4 → At w pm k (.bool (x.mine k))
  pmo : ¬ SL b pm
  ds : w0.heap.size ≤ pn ∧ pn < pe ∧ pe < pT ∧ pT < px ∧ px < pd ∧ pd < pm
  fr : Fr (SL b) w0 w
  bl : ∀ k, k < 4 → 0 ≤ x.bal k ∧ x.bal k ≤ 250
  jk : ∀ e ∈ x.jr, e.1 < 4

theorem Stt.quiet {w0 w w' : World} {b : LB} {x : BS} {un pn pe pd px pT pm : Nat} {e : Int} (h : Stt w0 w b x un pn pe pd px pT pm e) (hf : Fr (fun _ => False) w w') : Stt w0 w' b x un pn pe pd px pT pm e :=
  ⟨h.rt.fr hf (fun h => h) (fun h => h) (fun h => h), h.lv.fr hf (fun _ _ h => h), h.bx.fr hf (fun _ h => h.elim), fun k hk => (h.mn k hk).fr hf (fun h => h), h.pmo, h.ds, h.fr.then hf (fun _ _ h => h.elim), h.bl, h.jk⟩

theorem Stt.setE {w0 w : World} {b : LB} {x : BS} {un pn pe pd px pT pm : Nat} {e : Int} (h : Stt w0 w b x un pn pe pd px pT pm e) (e' : Int) : Stt w0 (w.setCell ⟨pe, 0, none⟩ (.int .i64 e')) b x un pn pe pd px pT pm e' := by
  have o := h.bx.out pe (by simp)
  obtain ⟨h1, h2, h3, h4, h5, h6⟩ := h.ds
  have hf : Fr (fun i => i = pe) w (w.setCell ⟨pe, 0, none⟩ (.int .i64 e')) := (Fr.refl (fun i => i = pe) w).setCell (p := ⟨pe, 0, none⟩) (fun _ => rfl) _
  have hn : ∀ i, SL b i → ¬ i = pe := fun i hi e => o (e ▸ hi)
  refine ⟨h.rt.fr hf (hn _ (.inr (.inl rfl))) (hn _ (.inr (.inr (.inl rfl)))) (hn _ (.inr (.inr (.inr rfl)))), h.lv.fr hf (fun i hi => hn i (.inl hi)), ?_, fun k hk => (h.mn k hk).fr hf (by omega), h.pmo, h.ds, h.fr.setN (by omega) _ _, h.bl, h.jk⟩
  exact ⟨h.bx.n0.fr hf (by omega), h.bx.e0.same _, h.bx.d0.fr hf (by omega), h.bx.x0.fr hf (by omega), h.bx.t0.fr hf (by omega), h.bx.ne, h.bx.out⟩

theorem Stt.locked {w0 w w' : World} {b : LB} {x : BS} {un pn pe pd px pT pm : Nat} {e : Int} (h : Stt w0 w b x un pn pe pd px pT pm e) {lk : L.St} (hr : RT w' b.T b.C b.R lk) (hf : Fr (S3 b.T b.C b.R) w w') (hs : List Int) : Stt w0 w' b ⟨lk, x.mine, hs, x.bal, x.jr⟩ un pn pe pd px pT pm e :=
  ⟨hr, h.lv.fr hf h.lv.ok.apart, h.bx.fr hf (fun _ h => SL_of3 h), fun k hk => (h.mn k hk).fr hf (fun c => h.pmo (SL_of3 c)), h.pmo, h.ds, h.fr.trans (hf.mono (fun _ _ h => SL_of3 h)), h.bl, h.jk⟩

theorem Stt.own {w0 w : World} {b : LB} {x : BS} {un pn pe pd px pT pm : Nat} {e : Int} (h : Stt w0 w b x un pn pe pd px pT pm e) {k : Nat} (v : Bool) : Stt w0 (w.setCell ⟨pm, k, none⟩ (.bool v)) b ⟨x.lk, L.updB x.mine k v, x.hs, x.bal, x.jr⟩ un pn pe pd px pT pm e := by
  obtain ⟨h1, h2, h3, h4, h5, h6⟩ := h.ds
  have hf : Fr (fun i => i = pm) w (w.setCell ⟨pm, k, none⟩ (.bool v)) := (Fr.refl (fun i => i = pm) w).setCell (p := ⟨pm, k, none⟩) (fun _ => rfl) _
  have hn : ∀ i, SL b i → ¬ i = pm := fun i hi e => h.pmo (e ▸ hi)
  refine ⟨h.rt.fr hf (hn _ (.inr (.inl rfl))) (hn _ (.inr (.inr (.inl rfl)))) (hn _ (.inr (.inr (.inr rfl)))), h.lv.fr hf (fun i hi => hn i (.inl hi)), ?_, fun j hj => ?_, h.pmo, h.ds, h.fr.setN (by omega) _ _, h.bl, h.jk⟩
  · exact ⟨h.bx.n0.fr hf (by omega), h.bx.e0.fr hf (by omega), h.bx.d0.fr hf (by omega), h.bx.x0.fr hf (by omega), h.bx.t0.fr hf (by omega), h.bx.ne, h.bx.out⟩
  · by_cases e : j = k
    · subst e
      exact ((h.mn j hj).same _).val (by simp [L.updB])
    · exact ((h.mn j hj).other (fun _ e' => e e'.symm) _).val (by simp [L.updB, e])

theorem payB_ok {bal : Nat → Int} (hb : ∀ k, k < 4 → 0 ≤ bal k ∧ bal k ≤ 250) {f t : Nat} (hf : f < 4) (ht : t < 4) {a : Int} (a1 : 1 ≤ a) : ∀ k, k < 4 → 0 ≤ payB bal f t a k ∧ payB bal f t a k ≤ 250 := by
  intro k hk
  have h0 := hb k hk
  have h1 := hb f hf
  have h2 := hb t ht
  unfold payB
  split
  · exact h0
  · split
    · unfold updI
      split
      · omega
      · exact h0
    · unfold updI
      split
      · omega
      · split
        · omega
        · exact h0
theorem payJ_ok {bal : Nat → Int} {f t : Nat} (hf : f < 4) (ht : t < 4) (a : Int) {jr : List (Nat × Int)} (hj : ∀ e ∈ jr, e.1 < 4) : ∀ e ∈ payJ bal f t a jr, e.1 < 4 := by
  intro e he
  unfold payJ at he
  split at he
  · exact hj e he
  · split at he
    · simp at he
      rcases he with he | rfl
      · exact hj e he
      · exact hf
    · simp at he
      rcases he with he | rfl | rfl
      · exact hj e he
      · exact hf
      · exact ht
theorem payJ_len (bal : Nat → Int) (f t : Nat) (a : Int) (jr : List (Nat × Int)) : (payJ bal f t a jr).length ≤ jr.length + 2 := by
  unfold payJ
  split
  · omega
  · split <;> simp

theorem Stt.paid {w0 w w' : World} {b : LB} {x : BS} {un pn pe pd px pT pm : Nat} {e : Int} (h : Stt w0 w b x un pn pe pd px pT pm e) {f t : Nat} (hf4 : f < 4) (ht4 : t < 4) {a : Int} (a1 : 1 ≤ a) (hv : LV w' b (payB x.bal f t a) (payJ x.bal f t a x.jr) un) (hf : Fr (S3L b) w w') : Stt w0 w' b (pay1 x f t a) un pn pe pd px pT pm e := by
  have hap := h.lv.ok.apart
  exact ⟨h.rt.fr hf (fun c => hap _ c (.inl rfl)) (fun c => hap _ c (.inr (.inl rfl))) (fun c => hap _ c (.inr (.inr rfl))), hv, h.bx.fr hf (fun _ h => SL_of3L h), fun k hk => (h.mn k hk).fr hf (fun c => h.pmo (SL_of3L c)), h.pmo, h.ds, h.fr.trans (hf.mono (fun _ _ h => SL_of3L h)), payB_ok h.bl hf4 ht4 a1, payJ_ok hf4 ht4 a h.jk⟩

theorem undo_ext {bal bal' : Nat → Int} (jr : List (Nat × Int)) : bal = bal' → undo bal jr = undo bal' jr := fun h => by rw [h]
theorem undo_append (bal : Nat → Int) (jr kr : List (Nat × Int)) : undo bal (jr ++ kr) = undo (undo bal kr) jr := by simp [undo, List.foldr_append]
theorem updI_back (bal : Nat → Int) (k : Nat) (v : Int) : updI (updI bal k v) k (bal k) = bal := by
  funext j
  unfold updI
  by_cases h : j = k
  · subst h; simp
  · simp [h]
/-- The journal takes the balances back. -/
theorem undo_pay {bal : Nat → Int} {f t : Nat} (hne : f ≠ t) (a : Int) (jr : List (Nat × Int)) : undo (payB bal f t a) (payJ bal f t a jr) = undo bal jr := by
  unfold payB payJ
  split
  · rfl
  · split
    · rw [undo_append]
      exact undo_ext jr (updI_back bal f _)
    · rw [List.append_assoc, undo_append]
      refine undo_ext jr ?_
      show undo (updI (updI bal f (bal f - a)) t (bal t + a)) [(f, bal f), (t, bal t)] = bal
      simp only [undo, List.foldr]
      have e : bal t = updI bal f (bal f - a) t := by unfold updI; rw [if_neg (fun e => hne e.symm)]
      have e2 : updI (updI (updI bal f (bal f - a)) t (bal t + a)) t (bal t) = updI bal f (bal f - a) := by
        conv => lhs; rw [show bal t = updI bal f (bal f - a) t from e]
        exact updI_back _ _ _
      rw [e2]
      exact updI_back bal f _

theorem chk_ok {f t a : Int} (h : chk f t a = 0) : ∃ fn tn : Nat, f = (fn : Int) ∧ t = (tn : Int) ∧ fn < 4 ∧ tn < 4 ∧ fn ≠ tn ∧ 1 ≤ a ∧ a ≤ 999 := by
  unfold chk at h
  split at h
  · rename_i hc
    obtain ⟨h1, h2, h3, h4⟩ := hc
    simp [goodB] at h1 h2
    split at h
    · cases h
    · exact ⟨f.toNat, t.toNat, by omega, by omega, by omega, by omega, by omega, h3, h4⟩
  · cases h

theorem Stt.ret {w0 w : World} {b : LB} {x : BS} {un pn pe pd px pT pm : Nat} {e : Int} (h : Stt w0 w b x un pn pe pd px pT pm e) (n e1 e2 : Int) :
    RT (((w.setCell ⟨pe, 0, none⟩ (.int .i64 e1)).setCell ⟨pn, 0, none⟩ (.int .i64 n)).setCell ⟨pe, 0, none⟩ (.int .i64 e2)) b.T b.C b.R x.lk ∧ LV (((w.setCell ⟨pe, 0, none⟩ (.int .i64 e1)).setCell ⟨pn, 0, none⟩ (.int .i64 n)).setCell ⟨pe, 0, none⟩ (.int .i64 e2)) b x.bal x.jr un ∧
    Bx (((w.setCell ⟨pe, 0, none⟩ (.int .i64 e1)).setCell ⟨pn, 0, none⟩ (.int .i64 n)).setCell ⟨pe, 0, none⟩ (.int .i64 e2)) b pn pe pd px pT n e2 false ∧ Fr (SL b) w0 (((w.setCell ⟨pe, 0, none⟩ (.int .i64 e1)).setCell ⟨pn, 0, none⟩ (.int .i64 n)).setCell ⟨pe, 0, none⟩ (.int .i64 e2)) := by
  have o := h.bx.out pe (by simp)
  have o2 := h.bx.out pn (by simp)
  obtain ⟨h1, h2, h3, h4, h5, h6⟩ := h.ds
  have hf : Fr (fun i => i = pe ∨ i = pn) w (((w.setCell ⟨pe, 0, none⟩ (.int .i64 e1)).setCell ⟨pn, 0, none⟩ (.int .i64 n)).setCell ⟨pe, 0, none⟩ (.int .i64 e2)) := (((Fr.refl (fun i => i = pe ∨ i = pn) w).setCell (p := ⟨pe, 0, none⟩) (fun _ => .inl rfl) _).setCell (p := ⟨pn, 0, none⟩) (fun _ => .inr rfl) _).setCell (p := ⟨pe, 0, none⟩) (fun _ => .inl rfl) _
  have hn : ∀ i, SL b i → ¬ (i = pe ∨ i = pn) := fun i hi e => by
    rcases e with e | e
    · exact o (e ▸ hi)
    · exact o2 (e ▸ hi)
  refine ⟨h.rt.fr hf (hn _ (.inr (.inl rfl))) (hn _ (.inr (.inr (.inl rfl)))) (hn _ (.inr (.inr (.inr rfl)))), h.lv.fr hf (fun i hi => hn i (.inl hi)), ?_, ((h.fr.setN (by omega) _ _).setN (by omega) _ _).setN (by omega) _ _⟩
  exact ⟨((h.bx.n0.other (by omega) _).same _).other (by omega) _, ((h.bx.e0.same _).other (by omega) _).same _, h.bx.d0.fr hf (by omega), h.bx.x0.fr hf (by omega), h.bx.t0.fr hf (by omega), h.bx.ne, h.bx.out⟩

theorem bump_le {n : Nat} (h : n ≤ 99) (p : Prop) [Decidable p] : (if p then n else bump n) ≤ 99 := by
  unfold bump
  split
  · exact h
  · split <;> omega
theorem sum_pay {bal : Nat → Int} {f t : Nat} (hf : f < 4) (ht : t < 4) (hne : f ≠ t) {a : Int} (h : payE bal f t a = 0) : sum4 (payB bal f t a) = sum4 bal := by
  unfold payE at h
  unfold payB
  split at h
  · cases h
  · split at h
    · cases h
    · rename_i h1 h2
      rw [if_neg h1, if_neg h2]
      have cf : f = 0 ∨ f = 1 ∨ f = 2 ∨ f = 3 := by omega
      have ct : t = 0 ∨ t = 1 ∨ t = 2 ∨ t = 3 := by omega
      unfold sum4 updI
      rcases cf with rfl | rfl | rfl | rfl <;> rcases ct with rfl | rfl | rfl | rfl <;> simp at hne ⊢ <;> omega
theorem fin_fail {w' : World} {b : LB} {s : Led} {ms : List Mv} {i : Nat} {er : Int} {x : BS} (hrun : runB 0 ms s.start = (i, er, x)) (her : er ≠ 0) (hu : undo x.bal x.jr = s.bal) (hb : ∀ k, k < 4 → 0 ≤ s.bal k ∧ s.bal k ≤ 250) (hul : s.un ≤ 99) (htot : sum4 s.bal = 400)
    (hr : RT w' b.T b.C b.R (relAll x.hs x.lk)) (hv : LV w' b (undo x.bal x.jr) [] (if x.jr = [] then s.un else bump s.un)) : LR w' b (endB s (runB 0 ms s.start)) := by
  rw [hrun]
  unfold endB
  rw [if_neg her]
  exact ⟨hr, hv, fun k hk => by show 0 ≤ undo x.bal x.jr k ∧ undo x.bal x.jr k ≤ 250; rw [hu]; exact hb k hk, bump_le hul _, by show sum4 (undo x.bal x.jr) = 400; rw [hu]; exact htot⟩

/-- The two locks of a move, as far as j. -/
def lkN (x : BS) (f t : Nat) : Nat → Int × BS
  | 0 => (0, x)
  | 1 => lock1 x f
  | _ => if (lock1 x f).1 ≠ 0 then lock1 x f else lock1 (lock1 x f).2 t
theorem lock1_same (x : BS) (k : Nat) : (lock1 x k).2.bal = x.bal ∧ (lock1 x k).2.jr = x.jr := by
  unfold lock1
  split
  · exact ⟨rfl, rfl⟩
  · split <;> exact ⟨rfl, rfl⟩
theorem lkN_two (x : BS) (f t j : Nat) : lkN x f t (j + 2) = if (lock1 x f).1 ≠ 0 then lock1 x f else lock1 (lock1 x f).2 t := rfl
theorem lkN_same (x : BS) (f t : Nat) : ∀ j, (lkN x f t j).2.bal = x.bal ∧ (lkN x f t j).2.jr = x.jr
  | 0 => ⟨rfl, rfl⟩
  | 1 => lock1_same x f
  | j + 2 => by
    rw [lkN_two]
    split
    · exact lock1_same x f
    · have h1 := lock1_same x f
      have h2 := lock1_same (lock1 x f).2 t
      exact ⟨h2.1.trans h1.1, h2.2.trans h1.2⟩
theorem move1_lock {x : BS} {f t : Nat} {a : Int} (hc : chk (f : Int) (t : Int) a = 0) (h : (lkN x f t 2).1 ≠ 0) : move1 x ⟨(f : Int), (t : Int), a⟩ = lkN x f t 2 := by
  unfold move1
  rw [if_neg (fun h => h hc)]
  simp only [Int.toNat_natCast]
  rw [show lkN x f t 2 = if (lock1 x f).1 ≠ 0 then lock1 x f else lock1 (lock1 x f).2 t from rfl] at h ⊢
  by_cases h1 : (lock1 x f).1 ≠ 0
  · rw [if_pos h1, if_pos h1]
  · rw [if_neg h1] at h
    rw [if_neg h1, if_neg h1, if_pos h]
theorem move1_pay {x : BS} {f t : Nat} {a : Int} (hc : chk (f : Int) (t : Int) a = 0) (h : (lkN x f t 2).1 = 0) : move1 x ⟨(f : Int), (t : Int), a⟩ = (payE (lkN x f t 2).2.bal f t a, pay1 (lkN x f t 2).2 f t a) := by
  unfold move1
  rw [if_neg (fun h => h hc)]
  simp only [Int.toNat_natCast]
  rw [show lkN x f t 2 = if (lock1 x f).1 ≠ 0 then lock1 x f else lock1 (lock1 x f).2 t from rfl] at h ⊢
  by_cases h1 : (lock1 x f).1 ≠ 0
  · rw [if_pos h1] at h; exact absurd h h1
  · rw [if_neg h1] at h
    simp only [if_neg h1]
    rw [if_neg (fun c => c h)]

theorem idx0 (f t : Int) (w : World) : (Instr.index 125 (.agg #[.int .i64 f, .int .i64 t]) (.int .i64 0)).run Try.prog w = .ok (.int .i64 f) w := by kernel_rfl
theorem idx1 (f t : Int) (w : World) : (Instr.index 125 (.agg #[.int .i64 f, .int .i64 t]) (.int .i64 1)).run Try.prog w = .ok (.int .i64 t) w := by kernel_rfl

/-- The frame at the outer loop, at the inner loop. -/
def OutF (b : LB) (a : Option Addr) (len cap pn pe pd px pm i : Nat) (ds : List Deferred) (a' : Act) : Prop := ∃ u : Nat → Value, a' = ⟨#[.pointer (some ⟨b.D, 0, none⟩), .slice a len cap, u 2, u 3, .pointer (some ⟨pn, 0, none⟩), .pointer (some ⟨pe, 0, none⟩), .pointer (some ⟨px, 0, none⟩), .pointer (some ⟨pd, 0, none⟩), .pointer (some ⟨pm, 0, none⟩), u 9, u 10, u 11, u 12, u 13, u 14, u 15, u 16, u 17, u 18, u 19, u 20, u 21, u 22, u 23, u 24, u 25, .slice a len cap, .int .i64 (len : Int), .int .i64 (i : Int), u 29, u 30, u 31, u 32, u 33, u 34, u 35, u 36, u 37, u 38, u 39, u 40, u 41, u 42, u 43, u 44, u 45, u 46, u 47, u 48, u 49, u 50, u 51, u 52, u 53, u 54, u 55, u 56, u 57, u 58, u 59, u 60, u 61, u 62, u 63, u 64, u 65, u 66, u 67, u 68, u 69, u 70, u 71, u 72, u 73, u 74, u 75, u 76, u 77, u 78], ds⟩
theorem outF {b : LB} {a : Option Addr} {len cap pn pe pd px pm i : Nat} {ds : List Deferred} {u2 u3 u9 u10 u11 u12 u13 u14 u15 u16 u17 u18 u19 u20 u21 u22 u23 u24 u25 u29 u30 u31 u32 u33 u34 u35 u36 u37 u38 u39 u40 u41 u42 u43 u44 u45 u46 u47 u48 u49 u50 u51 u52 u53 u54 u55 u56 u57 u58 u59 u60 u61 u62 u63 u64 u65 u66 u67 u68 u69 u70 u71 u72 u73 u74 u75 u76 u77 u78 : Value} : OutF b a len cap pn pe pd px pm i ds ⟨#[.pointer (some ⟨b.D, 0, none⟩), .slice a len cap, u2, u3, .pointer (some ⟨pn, 0, none⟩), .pointer (some ⟨pe, 0, none⟩), .pointer (some ⟨px, 0, none⟩), .pointer (some ⟨pd, 0, none⟩), .pointer (some ⟨pm, 0, none⟩), u9, u10, u11, u12, u13, u14, u15, u16, u17, u18, u19, u20, u21, u22, u23, u24, u25, .slice a len cap, .int .i64 (len : Int), .int .i64 (i : Int), u29, u30, u31, u32, u33, u34, u35, u36, u37, u38, u39, u40, u41, u42, u43, u44, u45, u46, u47, u48, u49, u50, u51, u52, u53, u54, u55, u56, u57, u58, u59, u60, u61, u62, u63, u64, u65, u66, u67, u68, u69, u70, u71, u72, u73, u74, u75, u76, u77, u78], ds⟩ := ⟨fun k => (#[undef, undef, u2, u3, undef, undef, undef, undef, undef, u9, u10, u11, u12, u13, u14, u15, u16, u17, u18, u19, u20, u21, u22, u23, u24, u25, undef, undef, undef, u29, u30, u31, u32, u33, u34, u35, u36, u37, u38, u39, u40, u41, u42, u43, u44, u45, u46, u47, u48, u49, u50, u51, u52, u53, u54, u55, u56, u57, u58, u59, u60, u61, u62, u63, u64, u65, u66, u67, u68, u69, u70, u71, u72, u73, u74, u75, u76, u77, u78] : Array Value).getD k undef, rfl⟩
def InF (b : LB) (a : Option Addr) (len cap pn pe pd px pm i q fn tn j : Nat) (ds : List Deferred) (a' : Act) : Prop := ∃ u : Nat → Value, a' = ⟨#[.pointer (some ⟨b.D, 0, none⟩), .slice a len cap, u 2, u 3, .pointer (some ⟨pn, 0, none⟩), .pointer (some ⟨pe, 0, none⟩), .pointer (some ⟨px, 0, none⟩), .pointer (some ⟨pd, 0, none⟩), .pointer (some ⟨pm, 0, none⟩), u 9, .int .i64 (i : Int), .pointer (some ⟨q, 0, none⟩), u 12, u 13, u 14, u 15, u 16, u 17, u 18, u 19, u 20, u 21, u 22, u 23, u 24, u 25, .slice a len cap, .int .i64 (len : Int), .int .i64 (i : Int), u 29, u 30, u 31, u 32, u 33, u 34, u 35, u 36, u 37, u 38, u 39, u 40, u 41, u 42, .agg #[.int .i64 (fn : Int), .int .i64 (tn : Int)], .int .i64 (j : Int), u 45, u 46, u 47, u 48, u 49, u 50, u 51, u 52, u 53, u 54, u 55, u 56, u 57, u 58, u 59, u 60, u 61, u 62, u 63, u 64, u 65, u 66, u 67, u 68, u 69, u 70, u 71, u 72, u 73, u 74, u 75, u 76, u 77, u 78], ds⟩
theorem inF {b : LB} {a : Option Addr} {len cap pn pe pd px pm i q fn tn j : Nat} {ds : List Deferred} {u2 u3 u9 u12 u13 u14 u15 u16 u17 u18 u19 u20 u21 u22 u23 u24 u25 u29 u30 u31 u32 u33 u34 u35 u36 u37 u38 u39 u40 u41 u42 u45 u46 u47 u48 u49 u50 u51 u52 u53 u54 u55 u56 u57 u58 u59 u60 u61 u62 u63 u64 u65 u66 u67 u68 u69 u70 u71 u72 u73 u74 u75 u76 u77 u78 : Value} : InF b a len cap pn pe pd px pm i q fn tn j ds ⟨#[.pointer (some ⟨b.D, 0, none⟩), .slice a len cap, u2, u3, .pointer (some ⟨pn, 0, none⟩), .pointer (some ⟨pe, 0, none⟩), .pointer (some ⟨px, 0, none⟩), .pointer (some ⟨pd, 0, none⟩), .pointer (some ⟨pm, 0, none⟩), u9, .int .i64 (i : Int), .pointer (some ⟨q, 0, none⟩), u12, u13, u14, u15, u16, u17, u18, u19, u20, u21, u22, u23, u24, u25, .slice a len cap, .int .i64 (len : Int), .int .i64 (i : Int), u29, u30, u31, u32, u33, u34, u35, u36, u37, u38, u39, u40, u41, u42, .agg #[.int .i64 (fn : Int), .int .i64 (tn : Int)], .int .i64 (j : Int), u45, u46, u47, u48, u49, u50, u51, u52, u53, u54, u55, u56, u57, u58, u59, u60, u61, u62, u63, u64, u65, u66, u67, u68, u69, u70, u71, u72, u73, u74, u75, u76, u77, u78], ds⟩ := ⟨fun k => (#[undef, undef, u2, u3, undef, undef, undef, undef, undef, u9, undef, undef, u12, u13, u14, u15, u16, u17, u18, u19, u20, u21, u22, u23, u24, u25, undef, undef, undef, u29, u30, u31, u32, u33, u34, u35, u36, u37, u38, u39, u40, u41, u42, undef, undef, u45, u46, u47, u48, u49, u50, u51, u52, u53, u54, u55, u56, u57, u58, u59, u60, u61, u62, u63, u64, u65, u66, u67, u68, u69, u70, u71, u72, u73, u74, u75, u76, u77, u78] : Array Value).getD k undef, rfl⟩

theorem batch_any {w : World} {b : LB} {s : Led} (h : LR w b s) {a : Option Addr} {ms : List Mv} (hm : MvsAt w a ms) (ha : ∀ B off, a = some ⟨B, off, none⟩ → ¬ SL b B) (cap : Nat) :
    Calls Try.prog 62 #[.pointer (some ⟨b.D, 0, none⟩), .slice a ms.length cap] w fun e w' => e = .returned (.tuple #[.int .i64 (batN s ms), .int .i64 (batE s ms)]) ∧ LR w' b (batS s ms) ∧ Fr (SL b) w w' := by
  have hmf : ∀ (fn : Fn) (first cap : Array Value) (w : World), (Instr.makeFunc fn first cap).run Try.prog w = .ok (.func fn first cap) w := fun _ _ _ _ => rfl
  by_cases hlen : 3 < ms.length
  · have HN : Hid (batN s ms = 0 ∧ batE s ms = 1 ∧ batS s ms = s) := by simp [Hid, batN, batE, batS, hlen]
    have hl : (3 : Int) < (ms.length : Int) := by omega
    have H := hid h
    clear hm hlen h ha
    go_enter_defers Try.func62, Try.ntmps62
    go_wp2_with fail
    refine ⟨.tuple #[.int .i64 0, .int .i64 1], (by simp [results, Try.results62, go_sem]), ?_⟩
    rw [HN.out.1, HN.out.2.1, HN.out.2.2]
    have fa : ∀ c1 c2, Fr (fun _ => False) w ((w.alloc c1).alloc c2) := fun c1 c2 => ((Fr.refl _ _).alloc _).alloc _
    exact ⟨rfl, ⟨H.out.rt.fr (fa _ _) (fun h => h) (fun h => h) (fun h => h), H.out.lv.fr (fa _ _) (fun _ _ h => h), H.out.bl, H.out.ul, H.out.tot⟩, (fa _ _).mono (fun _ _ h => h.elim)⟩
  · have hl : ¬ (3 : Int) < (ms.length : Int) := by omega
    have hN : batN s ms = ((runB 0 ms s.start).1 : Int) := by unfold batN; rw [if_neg hlen]
    have hE : batE s ms = (runB 0 ms s.start).2.1 := by unfold batE; rw [if_neg hlen]
    have hS : batS s ms = endB s (runB 0 ms s.start) := by unfold batS; rw [if_neg hlen]
    rw [hN, hE, hS]
    clear hN hE hS
    have d0 := h.lv.d0.c
    have H := hid h
    have hD := h.lv.d0.lt
    have HM := hid hm
    have HAA := hid ha
    obtain ⟨len, hlq⟩ : ∃ len, len = ms.length := ⟨_, rfl⟩
    have HLQ := hid hlq
    have HL3 : Hid (ms.length ≤ 3) := by unfold Hid; omega
    rw [← hlq] at hl ⊢
    have hl3 : len ≤ 3 := by omega
    clear h hm hlen ha hlq
    go_enter_defers Try.func62, Try.ntmps62
    go_wp2_with fail
    have fa : Fr (fun _ => False) w ((w.alloc (.cells #[.int .i64 0] 3)).alloc (.cells #[.int .i64 0] 34)) := ((Fr.refl _ _).alloc _).alloc _
    refine (clear_any (H.out.rt.fr fa (fun h => h) (fun h => h) (fun h => h))).mono ?_
    rintro e w1 ⟨rfl, hr1, f1⟩
    have HR1 := hid hr1
    have F1 := hid f1
    have FA := hid fa
    clear hr1 f1 fa
    go_wp2_with fail
    refine (begin_any b.D w1).mono ?_
    rintro e w2 ⟨rfl, ht2, f2⟩
    have HT2 := hid ht2
    have F2 := hid f2
    clear ht2 f2
    go_wp2_with fail
    have hpm : w2.heap.size + 1 + 1 = w2.heap.size + 2 := rfl
    have ST : Hid (Stt w (((w2.alloc (.cells #[.pointer (some ⟨w1.heap.size, 0, none⟩)] 122)).alloc (.cells #[.bool false] 4)).alloc (.cells #[.bool false, .bool false, .bool false, .bool false] 124)) b s.start s.un w.heap.size (w.heap.size + 1) (w2.heap.size + 1) w2.heap.size w1.heap.size (w2.heap.size + 1 + 1) 0) := by
      have z1 := F1.out.size
      have z2 := F2.out.size
      have zt := HT2.out.lt
      simp only [World.size_alloc] at z1
      have nS : ∀ i, w.heap.size ≤ i → ¬ SL b i := fun i hi c => by
        rcases c with c | c
        · have := H.out.lv.lt i c; omega
        · have := H.out.rt.lt
          rcases c with rfl | rfl | rfl <;> omega
      have e2 : Fr (fun _ => False) w2 (((w2.alloc (.cells #[.pointer (some ⟨w1.heap.size, 0, none⟩)] 122)).alloc (.cells #[.bool false] 4)).alloc (.cells #[.bool false, .bool false, .bool false, .bool false] 124)) := (((Fr.refl _ _).alloc _).alloc _).alloc _
      have f2e := F2.out.trans e2
      have hap := H.out.lv.ok.apart
      have lv1 := (H.out.lv.fr FA.out (fun _ _ h => h)).fr F1.out hap
      have a4 := ((At.new w #[.int .i64 0] 3 (o := 0) rfl).alloc (.cells #[.int .i64 0] 34)).fr F1.out (fun c => nS _ (Nat.le_refl _) (SL_of3 c))
      have a5 := (At.new (w.alloc (.cells #[.int .i64 0] 3)) #[.int .i64 0] 34 (o := 0) rfl)
      simp only [World.size_alloc] at a5
      have a5' := a5.fr F1.out (fun c => nS _ (by omega) (SL_of3 c))
      have ax := ((At.new w2 #[.pointer (some ⟨w1.heap.size, 0, none⟩)] 122 (o := 0) rfl).alloc (.cells #[.bool false] 4)).alloc (.cells #[.bool false, .bool false, .bool false, .bool false] 124)
      have ad := (At.new (w2.alloc (.cells #[.pointer (some ⟨w1.heap.size, 0, none⟩)] 122)) #[.bool false] 4 (o := 0) rfl).alloc (.cells #[.bool false, .bool false, .bool false, .bool false] 124)
      simp only [World.size_alloc] at ad
      have am : ∀ k v, (#[.bool false, .bool false, .bool false, .bool false] : Array Value)[k]? = some v → At (((w2.alloc (.cells #[.pointer (some ⟨w1.heap.size, 0, none⟩)] 122)).alloc (.cells #[.bool false] 4)).alloc (.cells #[.bool false, .bool false, .bool false, .bool false] 124)) (w2.heap.size + 1 + 1) k v := fun k v hv => by
        have := At.new ((w2.alloc (.cells #[.pointer (some ⟨w1.heap.size, 0, none⟩)] 122)).alloc (.cells #[.bool false] 4)) #[.bool false, .bool false, .bool false, .bool false] 124 hv
        simp only [World.size_alloc] at this
        exact this
      refine ⟨HR1.out.fr f2e (fun h => h) (fun h => h) (fun h => h), lv1.fr f2e (fun _ _ h => h), ⟨a4.fr f2e (fun h => h), a5'.fr f2e (fun h => h), ad, ax, HT2.out.fr e2 (fun h => h), by omega, fun i hi => ?_⟩, fun k hk => ?_, nS _ (by omega), by omega, ?_, H.out.bl, fun e he => by simp [Led.start] at he⟩
      · rcases hi with rfl | rfl | rfl | rfl | rfl <;> exact nS _ (by omega)
      · have : k = 0 ∨ k = 1 ∨ k = 2 ∨ k = 3 := by omega
        rcases this with rfl | rfl | rfl | rfl <;> exact am _ _ rfl
      · exact ((FA.out.mono (S' := SL b) (fun _ _ h => h.elim)).trans (F1.out.mono (fun _ _ h => SL_of3 h))).then f2e (fun _ _ h => h.elim)
    have HSL : Hid (∀ i, SL b i → i < w.heap.size) := fun i c => by
      rcases c with c | c
      · exact H.out.lv.lt i c
      · have := H.out.rt.lt
        rcases c with rfl | rfl | rfl <;> omega
    clear HR1 F1 FA HT2 F2 hpm
    generalize ((w2.alloc (.cells #[.pointer (some ⟨w1.heap.size, 0, none⟩)] 122)).alloc (.cells #[.bool false] 4)).alloc (.cells #[.bool false, .bool false, .bool false, .bool false] 124) = w3 at *
    generalize w2.heap.size + 1 + 1 = pm at *
    generalize w2.heap.size + 1 = pd at *
    generalize w2.heap.size = px at *
    generalize w1.heap.size = pT at *
    generalize hpe : w.heap.size + 1 = pe at *
    generalize hpn : w.heap.size = pn at *
    have HPN := hid hpn
    clear hpe hpn
    refine wp_loop (fun a' w' => ∃ (i : Nat) (x : BS) (e : Int), i ≤ len ∧ OutF b a len cap pn pe pd px pm i (dB b pd px pn pe x.hs) a' ∧ Stt w w' b x s.un pn pe pd px pT pm e ∧ x.jr.length ≤ 2 * i ∧ undo x.bal x.jr = s.bal ∧ runB 0 ms s.start = runB i (ms.drop i) x ∧ sum4 x.bal = 400) (fun a' _ => ((len : Int) - intOf (a'.tmps.getD 28 undef)).toNat) ?_ ?_
    · exact ⟨0, s.start, 0, by omega, outF, ST.out, by simp [Led.start], rfl, by simp, H.out.tot⟩
    · rintro a' w' ⟨i, x, e, hi, ⟨u, rfl⟩, st, hj, hu, hrun, htot⟩
      have HTOT := hid htot
      clear htot
      have HST := hid st
      have HU := hid hu
      have HRUN := hid hrun
      clear ST
      have hi0 : (0 : Int) ≤ (i : Int) := by omega
      by_cases hil : i < len
      · have hiI : (i : Int) < (len : Int) := by omega
        have hml : i < ms.length := by have := HLQ.out; omega
        obtain hm | ⟨B, off, ea, hB, hc⟩ := HM.out
        · subst hm; simp at hml
        subst ea
        obtain ⟨c0, c1, c2⟩ := hc i hml
        have g0 := cellFr st.fr (p := ⟨B, off + i * 3, none⟩) (HAA.out B off rfl) c0
        have g1 := cellFr st.fr (p := ⟨B, off + i * 3 + 1, none⟩) (HAA.out B off rfl) c1
        have g2 := cellFr st.fr (p := ⟨B, off + i * 3 + 2, none⟩) (HAA.out B off rfl) c2
        have HD : Hid (ms.drop i = ms[i] :: ms.drop (i + 1)) := List.drop_eq_getElem_cons hml
        have e5c := st.bx.e0
        generalize ms[i] = m at *
        obtain ⟨mf, mt, ma⟩ := m
        simp only at g0 g1 g2
        clear c0 c1 c2 hc hrun hu
        go_wp2_with fail
        refine (check_any mf mt ma _).mono ?_
        rintro e1 w4 ⟨rfl, f4⟩
        have e4 : Fr (fun _ => False) w' w4 := ((Fr.refl (fun _ => False) w').alloc _).trans f4
        have HS4 := hid (HST.out.quiet e4)
        have Q0 := hid ((At.new w' #[.int .i64 mf, .int .i64 mt, .int .i64 ma] 56 (o := 0) rfl).fr f4 (fun h => h))
        have Q1 := hid ((At.new w' #[.int .i64 mf, .int .i64 mt, .int .i64 ma] 56 (o := 1) rfl).fr f4 (fun h => h))
        have Q2 := hid ((At.new w' #[.int .i64 mf, .int .i64 mt, .int .i64 ma] 56 (o := 2) rfl).fr f4 (fun h => h))
        have HQ : Hid (pm < w'.heap.size) := (HST.out.mn 0 (by omega)).lt
        generalize w'.heap.size = q at *
        clear f4 e4 g0 g1 g2 st e5c
        have z5 := HS4.out.bx.e0.c
        have x5 := HS4.out.bx.e0.f
        have z4 := HS4.out.bx.n0.c
        have x4 := HS4.out.bx.n0.f
        have hne : pn ≠ pe := HS4.out.bx.ne
        by_cases hc : chk mf mt ma = 0
        · have HC := hid hc
          obtain ⟨fn, tn, rfl, rfl, hf4, ht4, hft, a1, a2⟩ := chk_ok hc
          rw [hc]
          clear hc
          have q0 := Q0.out.c
          have q1 := Q1.out.c
          obtain ⟨t1, t2, t3, t4, t5, t6⟩ := HS4.out.ds
          have hqe : q ≠ pe := by have := HQ.out; omega
          have TQ : Hid (pe < q ∧ pm < q ∧ pn < q) := ⟨by have := HQ.out; omega, HQ.out, by have := HQ.out; omega⟩
          clear t1 t2 t3 t4 t5 t6
          go_wp2_with fail
          have S5 := hid (HS4.out.setE 0)
          have hq := TQ.out
          have QW : ∀ k v, At w4 q k v → At (w4.setCell ⟨pe, 0, none⟩ (.int .i64 0)) q k v := fun k v hv => hv.other (by omega) _
          have Q5 := hid (⟨QW _ _ Q0.out, QW _ _ Q1.out, QW _ _ Q2.out⟩ : At (w4.setCell ⟨pe, 0, none⟩ (.int .i64 0)) q 0 (.int .i64 (fn : Int)) ∧ At (w4.setCell ⟨pe, 0, none⟩ (.int .i64 0)) q 1 (.int .i64 (tn : Int)) ∧ At (w4.setCell ⟨pe, 0, none⟩ (.int .i64 0)) q 2 (.int .i64 ma))
          clear q0 q1 z5 x5 z4 x4 Q0 Q1 Q2 hq QW HS4
          generalize w4.setCell ⟨pe, 0, none⟩ (.int .i64 0) = w45 at *
          refine wp_loop (fun a' w' => ∃ (j : Nat) (y : BS) (e5 : Int), j ≤ 2 ∧ InF b (some ⟨B, off, none⟩) len cap pn pe pd px pm i q fn tn j (dB b pd px pn pe y.hs) a' ∧ Stt w w' b y s.un pn pe pd px pT pm e5 ∧ (At w' q 0 (.int .i64 (fn : Int)) ∧ At w' q 1 (.int .i64 (tn : Int)) ∧ At w' q 2 (.int .i64 ma)) ∧ lkN x fn tn j = (0, y)) (fun a' _ => (2 - intOf (a'.tmps.getD 44 undef)).toNat) ?_ ?_
          · exact ⟨0, x, 0, by omega, inF, S5.out, Q5.out, rfl⟩
          · rintro a2 w5 ⟨j, y, e5, hj2, ⟨u', rfl⟩, st, ⟨y0, y1, y2⟩, hy⟩
            have Y0 := hid y0
            have Y1 := hid y1
            have Y2 := hid y2
            have HY := hid hy
            clear S5 Q5 hy y0 y1 y2
            have hjc : j = 0 ∨ j = 1 ∨ j = 2 := by omega
            have ix0 := idx0 (fn : Int) (tn : Int)
            have ix1 := idx1 (fn : Int) (tn : Int)
            rcases hjc with hj0 | hj1 | hj2'
            · subst hj0
              have hkl : fn < 4 := hf4
              have mk := st.mn fn hkl
              have m0 := mk.c
              have mf0 := mk.f
              have d0' := st.lv.d0.c
              have z5 := st.bx.e0.c
              have x5 := st.bx.e0.f
              have z4 := st.bx.n0.c
              have x4 := st.bx.n0.f
              have hk0 : (0 : Int) ≤ (fn : Int) := by omega
              have hk4 : (fn : Int) < 4 := by omega
              have HSY := hid st
              rcases hmine : y.mine fn with _ | _
              · rw [hmine] at m0
                have HA := hid (acquire_any st.rt (fn : Int))
                by_cases hae : (L.acq y.lk (fn : Int)).2.1 = 0
                · have hl1 : lock1 y fn = (0, ⟨(L.acq y.lk (fn : Int)).2.2, L.updB y.mine fn true, (L.acq y.lk (fn : Int)).1 :: y.hs, y.bal, y.jr⟩) := by unfold lock1; rw [hmine, if_neg (by simp), if_pos hae]
                  have HL1 := hid hl1
                  have HAE := hid hae
                  clear hl1 hae hmine st mk mf0
                  go_wp2_with fail
                  refine HA.out.mono ?_
                  rintro e6 w6 ⟨rfl, r6, f6⟩
                  rw [HAE.out]
                  have S6 := hid (((HSY.out.locked r6 f6 ((L.acq y.lk (fn : Int)).1 :: y.hs)).setE 0).own (k := fn) true)
                  have S6a := hid (HSY.out.locked r6 f6 ((L.acq y.lk (fn : Int)).1 :: y.hs))
                  have z5 := S6a.out.bx.e0.c
                  have x5 := S6a.out.bx.e0.f
                  have d0' := S6a.out.lv.d0.c
                  have m0 := (S6a.out.mn fn hkl).c
                  have mf0 := (S6a.out.mn fn hkl).f
                  have B6 : ∀ k v, At w5 q k v → At w6 q k v := fun k v hv => hv.fr f6 (fun c => by have := HSL.out q (SL_of3 c); have := TQ.out.2.2; have := HPN.out; omega)
                  have QQ := hid (⟨B6 _ _ Y0.out, B6 _ _ Y1.out, B6 _ _ Y2.out⟩ : At w6 q 0 (.int .i64 (fn : Int)) ∧ At w6 q 1 (.int .i64 (tn : Int)) ∧ At w6 q 2 (.int .i64 ma))
                  obtain ⟨t1, t2, t3, t4, t5, t6⟩ := S6a.out.ds
                  have n1 : pe ≠ pm := by omega
                  have n2 : b.D ≠ pe := fun e => HSY.out.bx.out pe (by simp) (e ▸ .inl (.inl rfl))
                  have n3 : b.D ≠ pm := fun e => HSY.out.pmo (e ▸ .inl (.inl rfl))
                  clear r6 f6 t1 t2 t3 t4 t5 t6 B6
                  go_wp2_with fail
                  have hq := TQ.out
                  have WQ : ∀ k v, At w6 q k v → At ((w6.setCell ⟨pe, 0, none⟩ (.int .i64 0)).setCell ⟨pm, fn, none⟩ (.bool true)) q k v := fun k v hv => (hv.other (by omega) _).other (by omega) _
                  exact ⟨⟨1, _, _, by omega, inF, S6.out, ⟨WQ _ _ QQ.out.1, WQ _ _ QQ.out.2.1, WQ _ _ QQ.out.2.2⟩, by rw [show lkN x fn tn 1 = lock1 x fn from rfl, show x = y from (congrArg Prod.snd HY.out)]; exact HL1.out⟩, by simp [intOf]⟩
                · have hl1 : lock1 y fn = ((L.acq y.lk (fn : Int)).2.1, y) := by unfold lock1; rw [hmine, if_neg (by simp), if_neg hae]
                  have hacq : (L.acq y.lk (fn : Int)).2.2 = y.lk := by
                    unfold L.acq at hae ⊢
                    split at hae
                    · split at hae
                      · rename_i c1 c2; rw [if_pos c1, if_pos c2]
                      · exact absurd rfl hae
                    · rename_i c1; rw [if_neg c1]
                  have HL1 := hid hl1
                  have HAE := hid hae
                  have HAQ := hid hacq
                  have haeb : ((L.acq y.lk (fn : Int)).2.1 != 0) = true := by simp [hae]
                  clear hl1 hae hmine st mk mf0 hacq
                  go_wp2_with fail
                  refine HA.out.mono ?_
                  rintro e6 w6 ⟨rfl, r6, f6⟩
                  rw [HAQ.out] at r6
                  have S6a := hid (HSY.out.locked r6 f6 y.hs)
                  have z5 := S6a.out.bx.e0.c
                  have x5 := S6a.out.bx.e0.f
                  have z4 := S6a.out.bx.n0.c
                  have x4 := S6a.out.bx.n0.f
                  clear r6 f6
                  go_wp2_with fail
                  obtain ⟨rr, rv, rb, rf⟩ := S6a.out.ret (i : Int) (L.acq y.lk (fn : Int)).2.1 (L.acq y.lk (fn : Int)).2.1
                  have hrun : runB 0 ms s.start = (i, (L.acq y.lk (fn : Int)).2.1, y) := by
                    rw [HRUN.out, HD.out]
                    have hm1 : move1 x ⟨(fn : Int), (tn : Int), ma⟩ = ((L.acq y.lk (fn : Int)).2.1, y) := by
                      have h2 : lkN x fn tn 2 = ((L.acq y.lk (fn : Int)).2.1, y) := by
                        have ex : x = y := congrArg Prod.snd HY.out
                        rw [lkN_two, ex, HL1.out]
                        exact if_pos HAE.out
                      rw [move1_lock HC.out (by rw [h2]; exact HAE.out), h2]
                    simp only [runB, hm1]
                    rw [if_pos HAE.out]
                  have hsame := lkN_same x fn tn 0
                  rw [HY.out] at hsame
                  refine leaves_return (n := (i : Int)) (e := (L.acq y.lk (fn : Int)).2.1) y.hs Try.results62 rfl rfl rr rv rb S6a.out.jk (by have h1 := HL3.out; have h2 := HLQ.out; have h3 := hsame.2; simp only at h3 ⊢; rw [h3]; omega) ?_
                  intro w9 r9 v9 f9
                  refine ⟨by rw [hrun], fin_fail hrun HAE.out (by rw [show y.bal = x.bal from hsame.1, show y.jr = x.jr from hsame.2]; exact HU.out) H.out.bl H.out.ul H.out.tot r9 v9, rf.trans f9⟩
              · rw [hmine] at m0
                have hl1 : lock1 y fn = (0, y) := by unfold lock1; rw [if_pos hmine]
                have HL1 := hid hl1
                clear hl1 hmine st mk mf0
                go_wp2_with fail
                exact ⟨⟨1, y, e5, by omega, inF, HSY.out, ⟨Y0.out, Y1.out, Y2.out⟩, by rw [show lkN x fn tn 1 = lock1 x fn from rfl, show x = y from (congrArg Prod.snd HY.out)]; exact HL1.out⟩, by simp [intOf]⟩
            · subst hj1
              have hkl : tn < 4 := ht4
              have mk := st.mn tn hkl
              have m0 := mk.c
              have mf0 := mk.f
              have d0' := st.lv.d0.c
              have z5 := st.bx.e0.c
              have x5 := st.bx.e0.f
              have z4 := st.bx.n0.c
              have x4 := st.bx.n0.f
              have hk0 : (0 : Int) ≤ (tn : Int) := by omega
              have hk4 : (tn : Int) < 4 := by omega
              have HSY := hid st
              rcases hmine : y.mine tn with _ | _
              · rw [hmine] at m0
                have HA := hid (acquire_any st.rt (tn : Int))
                by_cases hae : (L.acq y.lk (tn : Int)).2.1 = 0
                · have hl1 : lock1 y tn = (0, ⟨(L.acq y.lk (tn : Int)).2.2, L.updB y.mine tn true, (L.acq y.lk (tn : Int)).1 :: y.hs, y.bal, y.jr⟩) := by unfold lock1; rw [hmine, if_neg (by simp), if_pos hae]
                  have HL1 := hid hl1
                  have HAE := hid hae
                  clear hl1 hae hmine st mk mf0
                  go_wp2_with fail
                  refine HA.out.mono ?_
                  rintro e6 w6 ⟨rfl, r6, f6⟩
                  rw [HAE.out]
                  have S6 := hid (((HSY.out.locked r6 f6 ((L.acq y.lk (tn : Int)).1 :: y.hs)).setE 0).own (k := tn) true)
                  have S6a := hid (HSY.out.locked r6 f6 ((L.acq y.lk (tn : Int)).1 :: y.hs))
                  have z5 := S6a.out.bx.e0.c
                  have x5 := S6a.out.bx.e0.f
                  have d0' := S6a.out.lv.d0.c
                  have m0 := (S6a.out.mn tn hkl).c
                  have mf0 := (S6a.out.mn tn hkl).f
                  have B6 : ∀ k v, At w5 q k v → At w6 q k v := fun k v hv => hv.fr f6 (fun c => by have := HSL.out q (SL_of3 c); have := TQ.out.2.2; have := HPN.out; omega)
                  have QQ := hid (⟨B6 _ _ Y0.out, B6 _ _ Y1.out, B6 _ _ Y2.out⟩ : At w6 q 0 (.int .i64 (fn : Int)) ∧ At w6 q 1 (.int .i64 (tn : Int)) ∧ At w6 q 2 (.int .i64 ma))
                  obtain ⟨t1, t2, t3, t4, t5, t6⟩ := S6a.out.ds
                  have n1 : pe ≠ pm := by omega
                  have n2 : b.D ≠ pe := fun e => HSY.out.bx.out pe (by simp) (e ▸ .inl (.inl rfl))
                  have n3 : b.D ≠ pm := fun e => HSY.out.pmo (e ▸ .inl (.inl rfl))
                  clear r6 f6 t1 t2 t3 t4 t5 t6 B6
                  go_wp2_with fail
                  have hq := TQ.out
                  have WQ : ∀ k v, At w6 q k v → At ((w6.setCell ⟨pe, 0, none⟩ (.int .i64 0)).setCell ⟨pm, tn, none⟩ (.bool true)) q k v := fun k v hv => (hv.other (by omega) _).other (by omega) _
                  exact ⟨⟨2, _, _, by omega, inF, S6.out, ⟨WQ _ _ QQ.out.1, WQ _ _ QQ.out.2.1, WQ _ _ QQ.out.2.2⟩, by rw [lkN_two]; have hy1 : lock1 x fn = (0, y) := HY.out; rw [hy1]; rw [if_neg (by simp)]; exact HL1.out⟩, by simp [intOf]⟩
                · have hl1 : lock1 y tn = ((L.acq y.lk (tn : Int)).2.1, y) := by unfold lock1; rw [hmine, if_neg (by simp), if_neg hae]
                  have hacq : (L.acq y.lk (tn : Int)).2.2 = y.lk := by
                    unfold L.acq at hae ⊢
                    split at hae
                    · split at hae
                      · rename_i c1 c2; rw [if_pos c1, if_pos c2]
                      · exact absurd rfl hae
                    · rename_i c1; rw [if_neg c1]
                  have HL1 := hid hl1
                  have HAE := hid hae
                  have HAQ := hid hacq
                  have haeb : ((L.acq y.lk (tn : Int)).2.1 != 0) = true := by simp [hae]
                  clear hl1 hae hmine st mk mf0 hacq
                  go_wp2_with fail
                  refine HA.out.mono ?_
                  rintro e6 w6 ⟨rfl, r6, f6⟩
                  rw [HAQ.out] at r6
                  have S6a := hid (HSY.out.locked r6 f6 y.hs)
                  have z5 := S6a.out.bx.e0.c
                  have x5 := S6a.out.bx.e0.f
                  have z4 := S6a.out.bx.n0.c
                  have x4 := S6a.out.bx.n0.f
                  clear r6 f6
                  go_wp2_with fail
                  obtain ⟨rr, rv, rb, rf⟩ := S6a.out.ret (i : Int) (L.acq y.lk (tn : Int)).2.1 (L.acq y.lk (tn : Int)).2.1
                  have hrun : runB 0 ms s.start = (i, (L.acq y.lk (tn : Int)).2.1, y) := by
                    rw [HRUN.out, HD.out]
                    have hm1 : move1 x ⟨(fn : Int), (tn : Int), ma⟩ = ((L.acq y.lk (tn : Int)).2.1, y) := by
                      have h2 : lkN x fn tn 2 = ((L.acq y.lk (tn : Int)).2.1, y) := by
                        have hy1 : lock1 x fn = (0, y) := HY.out
                        rw [lkN_two, hy1, if_neg (by simp)]
                        exact HL1.out
                      rw [move1_lock HC.out (by rw [h2]; exact HAE.out), h2]
                    simp only [runB, hm1]
                    rw [if_pos HAE.out]
                  have hsame := lkN_same x fn tn 1
                  rw [HY.out] at hsame
                  refine leaves_return (n := (i : Int)) (e := (L.acq y.lk (tn : Int)).2.1) y.hs Try.results62 rfl rfl rr rv rb S6a.out.jk (by have h1 := HL3.out; have h2 := HLQ.out; have h3 := hsame.2; simp only at h3 ⊢; rw [h3]; omega) ?_
                  intro w9 r9 v9 f9
                  refine ⟨by rw [hrun], fin_fail hrun HAE.out (by rw [show y.bal = x.bal from hsame.1, show y.jr = x.jr from hsame.2]; exact HU.out) H.out.bl H.out.ul H.out.tot r9 v9, rf.trans f9⟩
              · rw [hmine] at m0
                have hl1 : lock1 y tn = (0, y) := by unfold lock1; rw [if_pos hmine]
                have HL1 := hid hl1
                clear hl1 hmine st mk mf0
                go_wp2_with fail
                exact ⟨⟨2, y, e5, by omega, inF, HSY.out, ⟨Y0.out, Y1.out, Y2.out⟩, by rw [lkN_two]; have hy1 : lock1 x fn = (0, y) := HY.out; rw [hy1]; rw [if_neg (by simp)]; exact HL1.out⟩, by simp [intOf]⟩
            · subst hj2'
              have y0 := Y0.out.c
              have y1 := Y1.out.c
              have y2 := Y2.out.c
              have x0 := st.bx.x0.c
              have HSY := hid st
              clear st
              have hsame := lkN_same x fn tn 2
              rw [HY.out] at hsame
              have HSAME := hid hsame
              have hm1 : move1 x ⟨(fn : Int), (tn : Int), ma⟩ = (payE y.bal fn tn ma, pay1 y fn tn ma) := by
                rw [move1_pay HC.out (by rw [HY.out]), HY.out]
              have HM1 := hid hm1
              have hjl : y.jr.length ≤ 4 := by have h3 := hsame.2; simp only at h3; rw [h3]; omega
              have HSP := hid (step_any HSY.out.lv HSY.out.bx.t0 (fun c => HSY.out.bx.out pT (by simp) (.inl c)) hf4 ht4 hft a1 a2 HSY.out.bl hjl (i : Int))
              have HJL := hid hjl
              clear hsame hm1 hjl
              go_wp2_with fail
              refine HSP.out.mono ?_
              rintro e7 w7 ⟨rfl, lv7, f7⟩
              have S7 := hid (HSY.out.paid hf4 ht4 a1 lv7 f7)
              have HUN : Hid (undo (pay1 y fn tn ma).bal (pay1 y fn tn ma).jr = s.bal) := by
                show undo (payB y.bal fn tn ma) (payJ y.bal fn tn ma y.jr) = s.bal
                rw [undo_pay hft, show y.bal = x.bal from HSAME.out.1, show y.jr = x.jr from HSAME.out.2]
                exact HU.out
              have HJN : Hid ((pay1 y fn tn ma).jr.length ≤ 2 * (i + 1)) := by
                have h1 := payJ_len y.bal fn tn ma y.jr
                have h2 : y.jr = x.jr := HSAME.out.2
                show (payJ y.bal fn tn ma y.jr).length ≤ 2 * (i + 1)
                rw [h2] at h1 ⊢
                omega
              clear lv7 f7
              by_cases hp : payE y.bal fn tn ma = 0
              · rw [if_pos hp]
                have HP := hid hp
                clear hp
                go_wp2_with fail
                refine ⟨⟨i + 1, pay1 y fn tn ma, e5, by omega, outF, S7.out, HJN.out, HUN.out, ?_, by show sum4 (payB y.bal fn tn ma) = 400; rw [sum_pay hf4 ht4 hft HP.out, show y.bal = x.bal from HSAME.out.1]; exact HTOT.out⟩, by simp [intOf]; omega⟩
                rw [HRUN.out, HD.out]
                simp only [runB, HM1.out]
                rw [if_neg (fun c => c HP.out)]
              · rw [if_neg hp]
                have HP := hid hp
                clear hp
                go_wp2_with fail
                have hrun : runB 0 ms s.start = (i, payE y.bal fn tn ma, pay1 y fn tn ma) := by
                  rw [HRUN.out, HD.out]
                  simp only [runB, HM1.out]
                  rw [if_pos HP.out]
                refine leaves_abort (i : Int) (payE y.bal fn tn ma) y.hs Try.results62 rfl rfl S7.out.rt S7.out.lv S7.out.bx S7.out.jk (by have h1 := HJN.out; have h2 := HL3.out; have h3 := HLQ.out; omega) ?_
                intro w9 r9 v9 f9
                refine ⟨by rw [hrun], fin_fail hrun HP.out HUN.out H.out.bl H.out.ul H.out.tot r9 v9, S7.out.fr.then f9 (fun k hk c => ?_)⟩
                have hds := S7.out.ds
                rcases c with c | c | c
                · exact c
                · omega
                · omega
        · have hcb : (chk mf mt ma != 0) = true := by simp [hc]
          have HC := hid hc
          clear hc
          go_wp2_with fail
          obtain ⟨rr, rv, rb, rf⟩ := HS4.out.ret (i : Int) (chk mf mt ma) (chk mf mt ma)
          have hrun : runB 0 ms s.start = (i, chk mf mt ma, x) := by
            rw [HRUN.out, HD.out]
            have hm1 : move1 x ⟨mf, mt, ma⟩ = (chk mf mt ma, x) := by unfold move1; rw [if_pos HC.out]
            simp only [runB, hm1]
            rw [if_pos HC.out]
          refine leaves_return (n := (i : Int)) (e := chk mf mt ma) x.hs Try.results62 rfl rfl rr rv rb HS4.out.jk (by have := HL3.out; have := HLQ.out; omega) ?_
          intro w9 r9 v9 f9
          refine ⟨by rw [hrun], fin_fail hrun HC.out HU.out H.out.bl H.out.ul H.out.tot r9 v9, rf.trans f9⟩
      · have hiI : ¬ (i : Int) < (len : Int) := by omega
        have hil' : i = len := by omega
        have z4 := st.bx.n0.c
        have x4 := st.bx.n0.f
        have z5 := st.bx.e0.c
        have x5 := st.bx.e0.f
        have z6 := st.bx.d0.c
        have x6 := st.bx.d0.f
        obtain ⟨t1, t2, t3, t4, t5, t6⟩ := st.ds
        have n1 : pd ≠ pn := by omega
        have n2 : pd ≠ pe := by omega
        have n3 : pn ≠ pe := by omega
        clear st t1 t2 t3 t4 t5 t6 hrun hu
        subst hil'
        go_wp2_with fail
        obtain ⟨t1, t2, t3, t4, t5, t6⟩ := HST.out.ds
        have hrun : runB 0 ms s.start = (i, 0, x) := by
          rw [HRUN.out, List.drop_of_length_le (by rw [← HLQ.out]; exact Nat.le_refl _)]
          rfl
        have hf : Fr (fun k => k = pd ∨ k = pn ∨ k = pe) w' (((w'.setCell ⟨pd, 0, none⟩ (.bool true)).setCell ⟨pn, 0, none⟩ (.int .i64 (i : Int))).setCell ⟨pe, 0, none⟩ (.int .i64 0)) := (((Fr.refl (fun k => k = pd ∨ k = pn ∨ k = pe) w').setCell (p := ⟨pd, 0, none⟩) (fun _ => .inl rfl) _).setCell (p := ⟨pn, 0, none⟩) (fun _ => .inr (.inl rfl)) _).setCell (p := ⟨pe, 0, none⟩) (fun _ => .inr (.inr rfl)) _
        have hn : ∀ k, SL b k → ¬ (k = pd ∨ k = pn ∨ k = pe) := fun k hk e => by
          rcases e with e | e | e
          · exact HST.out.bx.out pd (by simp) (e ▸ hk)
          · exact HST.out.bx.out pn (by simp) (e ▸ hk)
          · exact HST.out.bx.out pe (by simp) (e ▸ hk)
        have rr := HST.out.rt.fr hf (hn _ (.inr (.inl rfl))) (hn _ (.inr (.inr (.inl rfl)))) (hn _ (.inr (.inr (.inr rfl))))
        have rv := HST.out.lv.fr hf (fun k hk => hn k (.inl hk))
        have rb : Bx (((w'.setCell ⟨pd, 0, none⟩ (.bool true)).setCell ⟨pn, 0, none⟩ (.int .i64 (i : Int))).setCell ⟨pe, 0, none⟩ (.int .i64 0)) b pn pe pd px pT (i : Int) 0 true :=
          ⟨((HST.out.bx.n0.other (by omega) _).same _).other (by omega) _, ((HST.out.bx.e0.other (by omega) _).other (by omega) _).same _, ((HST.out.bx.d0.same _).other (by omega) _).other (by omega) _, HST.out.bx.x0.fr hf (by omega), HST.out.bx.t0.fr hf (by omega), HST.out.bx.ne, HST.out.bx.out⟩
        have rf : Fr (SL b) w (((w'.setCell ⟨pd, 0, none⟩ (.bool true)).setCell ⟨pn, 0, none⟩ (.int .i64 (i : Int))).setCell ⟨pe, 0, none⟩ (.int .i64 0)) := ((HST.out.fr.setN (by omega) _ _).setN (by omega) _ _).setN (by omega) _ _
        refine leaves_done (n := (i : Int)) (e := 0) x.hs Try.results62 rfl rfl rr rv rb ?_
        intro w9 r9 v9 f9
        refine ⟨by rw [hrun], ?_, rf.trans f9⟩
        rw [hrun]
        unfold endB
        rw [if_pos rfl]
        exact ⟨r9, v9, HST.out.bl, H.out.ul, HTOT.out⟩

end Go.Proofs.Qxb6500452a
