/- Facts: its walk. -/
import Derived.Test.Qxb6500452aVNew
namespace Go.Proofs.Qxb6500452a
open Go Go.RowKit
set_option maxRecDepth 100000
set_option maxHeartbeats 3200000
set_option linter.unusedSimpArgs false
set_option linter.unusedVariables false

theorem LR.lt {w : World} {b : LB} {s : Led} (h : LR w b s) : ∀ i, SL b i → i < w.heap.size := fun i c => by
  rcases c with c | c
  · exact h.lv.lt i c
  · have := h.rt.lt
    rcases c with rfl | rfl | rfl <;> omega
theorem LR.fr {w w' : World} {b : LB} {s : Led} (h : LR w b s) {S : Nat → Prop} (hf : Fr S w w') (hn : ∀ i, SL b i → ¬ S i) : LR w' b s :=
  ⟨h.rt.fr hf (hn _ (.inr (.inl rfl))) (hn _ (.inr (.inr (.inl rfl)))) (hn _ (.inr (.inr (.inr rfl)))), h.lv.fr hf (fun i hi => hn i (.inl hi)), h.bl, h.ul, h.tot⟩

/-- Two moves in a block. -/
structure Two (w : World) (p : Nat) (m n : Mv) : Prop where
  a0 : At w p 0 (.int .i64 m.f)
  a1 : At w p 1 (.int .i64 m.t)
  a2 : At w p 2 (.int .i64 m.a)
  a3 : At w p 3 (.int .i64 n.f)
  a4 : At w p 4 (.int .i64 n.t)
  a5 : At w p 5 (.int .i64 n.a)
theorem Two.fr {w w' : World} {p : Nat} {m n : Mv} (h : Two w p m n) {S : Nat → Prop} (hf : Fr S w w') (hn : ¬ S p) : Two w' p m n := ⟨h.a0.fr hf hn, h.a1.fr hf hn, h.a2.fr hf hn, h.a3.fr hf hn, h.a4.fr hf hn, h.a5.fr hf hn⟩
theorem Two.mvs {w : World} {p : Nat} {m n : Mv} (h : Two w p m n) : MvsAt w (some ⟨p, 0, none⟩) [m, n] := by
  refine .inr ⟨p, 0, rfl, h.a0.lt, fun i hi => ?_⟩
  match i, hi with
  | 0, _ => exact ⟨h.a0.c, h.a1.c, h.a2.c⟩
  | 1, _ => exact ⟨h.a3.c, h.a4.c, h.a5.c⟩
theorem Two.new (w : World) (m n : Mv) (t : TypeId) : Two (w.alloc (.cells #[.int .i64 m.f, .int .i64 m.t, .int .i64 m.a, .int .i64 n.f, .int .i64 n.t, .int .i64 n.a] t)) w.heap.size m n := ⟨At.new w _ _ rfl, At.new w _ _ rfl, At.new w _ _ rfl, At.new w _ _ rfl, At.new w _ _ rfl, At.new w _ _ rfl⟩

theorem batch_two {w : World} {b : LB} {s s' : Led} (h : LR w b s) {p : Nat} {m n : Mv} (ht : Two w p m n) (hp : ¬ SL b p) (cap : Nat) {k e : Int} (hN : batN s [m, n] = k) (hE : batE s [m, n] = e) (hS : batS s [m, n] = s') :
    Calls Try.prog 62 #[.pointer (some ⟨b.D, 0, none⟩), .slice (some ⟨p, 0, none⟩) 2 cap] w fun x w' => x = .returned (.tuple #[.int .i64 k, .int .i64 e]) ∧ LR w' b s' ∧ Two w' p m n ∧ Fr (SL b) w w' := by
  have := batch_any h ht.mvs (fun B off e => by cases e; exact hp) cap
  rw [hN, hE, hS] at this
  refine this.mono ?_
  rintro x w' ⟨rfl, h1, h2⟩
  exact ⟨rfl, h1, ht.fr h2 hp, h2⟩

theorem batch_one {w : World} {b : LB} {s s' : Led} (h : LR w b s) {p : Nat} {m : Mv} (a0 : At w p 0 (.int .i64 m.f)) (a1 : At w p 1 (.int .i64 m.t)) (a2 : At w p 2 (.int .i64 m.a)) (hp : ¬ SL b p) (cap : Nat) {k e : Int} (hN : batN s [m] = k) (hE : batE s [m] = e) (hS : batS s [m] = s') :
    Calls Try.prog 62 #[.pointer (some ⟨b.D, 0, none⟩), .slice (some ⟨p, 0, none⟩) 1 cap] w fun x w' => x = .returned (.tuple #[.int .i64 k, .int .i64 e]) ∧ LR w' b s' ∧ Fr (SL b) w w' := by
  have hm : MvsAt w (some ⟨p, 0, none⟩) [m] := by
    refine .inr ⟨p, 0, rfl, a0.lt, fun i hi => ?_⟩
    match i, hi with
    | 0, _ => exact ⟨a0.c, a1.c, a2.c⟩
  have := batch_any h hm (fun B off e => by cases e; exact hp) cap
  rw [hN, hE, hS] at this
  exact this

/-- Five times the same move. -/
def Five (w : World) (p : Nat) : Prop := ∀ i, i < 5 → At w p (i * 3) (.int .i64 0) ∧ At w p (i * 3 + 1) (.int .i64 1) ∧ At w p (i * 3 + 2) (.int .i64 1)
def m5 : List Mv := [⟨0, 1, 1⟩, ⟨0, 1, 1⟩, ⟨0, 1, 1⟩, ⟨0, 1, 1⟩, ⟨0, 1, 1⟩]
theorem Five.fr {w w' : World} {p : Nat} (h : Five w p) {S : Nat → Prop} (hf : Fr S w w') (hn : ¬ S p) : Five w' p := fun i hi => ⟨(h i hi).1.fr hf hn, (h i hi).2.1.fr hf hn, (h i hi).2.2.fr hf hn⟩
theorem batch_five {w : World} {b : LB} {s : Led} (h : LR w b s) {p : Nat} (hv : Five w p) (hp : ¬ SL b p) (cap : Nat) :
    Calls Try.prog 62 #[.pointer (some ⟨b.D, 0, none⟩), .slice (some ⟨p, 0, none⟩) 5 cap] w fun x w' => x = .returned (.tuple #[.int .i64 0, .int .i64 1]) ∧ LR w' b s ∧ Fr (SL b) w w' := by
  have hm : MvsAt w (some ⟨p, 0, none⟩) m5 := by
    refine .inr ⟨p, 0, rfl, (hv 0 (by omega)).1.lt, fun i hi => ?_⟩
    rw [Nat.zero_add]
    match i, hi with
    | 0, _ => exact ⟨(hv 0 (by omega)).1.c, (hv 0 (by omega)).2.1.c, (hv 0 (by omega)).2.2.c⟩
    | 1, _ => exact ⟨(hv 1 (by omega)).1.c, (hv 1 (by omega)).2.1.c, (hv 1 (by omega)).2.2.c⟩
    | 2, _ => exact ⟨(hv 2 (by omega)).1.c, (hv 2 (by omega)).2.1.c, (hv 2 (by omega)).2.2.c⟩
    | 3, _ => exact ⟨(hv 3 (by omega)).1.c, (hv 3 (by omega)).2.1.c, (hv 3 (by omega)).2.2.c⟩
    | 4, _ => exact ⟨(hv 4 (by omega)).1.c, (hv 4 (by omega)).2.1.c, (hv 4 (by omega)).2.2.c⟩
  have := batch_any h hm (fun B off e => by cases e; exact hp) cap
  exact this

def clr (s : Led) : Led := ⟨L.clear s.lk, s.bal, s.un⟩
theorem bad_one {s : Led} {m : Mv} (h : chk m.f m.t m.a = 2) : batN s [m] = 0 ∧ batE s [m] = 2 ∧ batS s [m] = clr s := by
  have hm : move1 s.start m = (2, s.start) := by unfold move1; rw [h]; rfl
  have hr : runB 0 [m] s.start = (0, 2, s.start) := by simp only [runB, hm]; rfl
  refine ⟨?_, ?_, ?_⟩
  · unfold batN; rw [hr]; rfl
  · unfold batE; rw [hr]; rfl
  · unfold batS; rw [hr]; rfl

end Go.Proofs.Qxb6500452a
