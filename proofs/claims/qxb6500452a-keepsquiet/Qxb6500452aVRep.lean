/- The real ledger: its blocks; the journal; tx.set. -/
import Derived.Test.Qxb6500452aLMod2
import Derived.Deep.RegionHeld3
namespace Go.Proofs.Qxb6500452a
open Go Go.RowKit
set_option maxRecDepth 100000
set_option maxHeartbeats 1600000
set_option linter.unusedSimpArgs false
set_option linter.unusedVariables false

/-- A cell is there and may be written. -/
def Has (w : World) (b o : Nat) : Prop := ∃ v, At w b o v
theorem At.has {w : World} {b o : Nat} {v : Value} (h : At w b o v) : Has w b o := ⟨v, h⟩
theorem Has.set {w : World} {b o : Nat} (h : Has w b o) (b' o' : Nat) (x : Value) : Has (w.setCell ⟨b', o', none⟩ x) b o := by
  obtain ⟨v, h⟩ := h
  by_cases e : b' = b ∧ o' = o
  · obtain ⟨rfl, rfl⟩ := e
    exact ⟨x, h.same x⟩
  · exact ⟨v, h.other (fun e1 e2 => e ⟨e1, e2⟩) x⟩
theorem Has.fr {w w' : World} {b o : Nat} (h : Has w b o) {S : Nat → Prop} (hf : Fr S w w') (hn : ¬ S b) : Has w' b o := by
  obtain ⟨v, h⟩ := h
  exact ⟨v, h.fr hf hn⟩
theorem Fr.setN {S : Nat → Prop} {a w : World} (h : Fr S a w) {b : Nat} (hb : a.heap.size ≤ b) (o : Nat) (x : Value) : Fr S a (w.setCell ⟨b, o, none⟩ x) :=
  h.setCell (fun h' => absurd h' (by simp only; omega)) x

/-- The ledger's six blocks: the ledger, the balances, the journal, the lock table's three. -/
structure LB where
  D : Nat
  B : Nat
  G : Nat
  T : Nat
  C : Nat
  R : Nat
def S3L (b : LB) : Nat → Prop := fun i => i = b.D ∨ i = b.B ∨ i = b.G
def SL (b : LB) : Nat → Prop := fun i => S3L b i ∨ S3 b.T b.C b.R i

def updI (f : Nat → Int) (k : Nat) (v : Int) : Nat → Int := fun j => if j = k then v else f j

structure LB.Ok (b : LB) : Prop where
  db : b.D ≠ b.B
  dg : b.D ≠ b.G
  bg : b.B ≠ b.G
  nd : ¬ S3 b.T b.C b.R b.D
  nb : ¬ S3 b.T b.C b.R b.B
  ng : ¬ S3 b.T b.C b.R b.G

/-- The ledger's own three blocks: balances, journal, roll-backs. -/
structure LV (w : World) (b : LB) (bal : Nat → Int) (jr : List (Nat × Int)) (un : Nat) : Prop where
  d0 : At w b.D 0 (.pointer (some ⟨b.T, 0, none⟩))
  d1 : At w b.D 1 (.slice (some ⟨b.B, 0, none⟩) 4 4)
  d2 : At w b.D 2 (.slice (some ⟨b.G, 0, none⟩) jr.length 6)
  d3 : At w b.D 3 (.int .i64 (un : Int))
  bl : ∀ k, k < 4 → At w b.B k (.int .i64 (bal k))
  jg : ∀ i (h : i < jr.length), At w b.G (i * 2) (.int .i64 (jr[i].1 : Int)) ∧ At w b.G (i * 2 + 1) (.int .i64 jr[i].2)
  has : ∀ i, i < 12 → Has w b.G i
  ok : b.Ok

theorem LV.fr {w w' : World} {b : LB} {bal : Nat → Int} {jr : List (Nat × Int)} {un : Nat} (h : LV w b bal jr un) {S : Nat → Prop} (hf : Fr S w w') (hn : ∀ i, S3L b i → ¬ S i) : LV w' b bal jr un :=
  ⟨h.d0.fr hf (hn _ (.inl rfl)), h.d1.fr hf (hn _ (.inl rfl)), h.d2.fr hf (hn _ (.inl rfl)), h.d3.fr hf (hn _ (.inl rfl)), fun k hk => (h.bl k hk).fr hf (hn _ (.inr (.inl rfl))),
    fun i hi => ⟨(h.jg i hi).1.fr hf (hn _ (.inr (.inr rfl))), (h.jg i hi).2.fr hf (hn _ (.inr (.inr rfl)))⟩, fun i hi => (h.has i hi).fr hf (hn _ (.inr (.inr rfl))), h.ok⟩

theorem LV.lt {w : World} {b : LB} {bal : Nat → Int} {jr : List (Nat × Int)} {un : Nat} (h : LV w b bal jr un) : ∀ i, S3L b i → i < w.heap.size := by
  rintro i (rfl | rfl | rfl)
  · exact h.d0.lt
  · exact (h.bl 0 (by omega)).lt
  · obtain ⟨v, hv⟩ := h.has 0 (by omega)
    exact hv.lt

/-- Behind tx.set: the journal gains the old balance, the balance turns. -/
theorem LV.sets {w : World} {b : LB} {bal : Nat → Int} {jr : List (Nat × Int)} {un : Nat} (h : LV w b bal jr un) {k : Nat} (hk : k < 4) (hj : jr.length < 6) (v : Int) {n : Nat} (hn : n = jr.length) :
    LV ((((w.setCell ⟨b.G, n * 2, none⟩ (.int .i64 (k : Int))).setCell ⟨b.G, n * 2 + 1, none⟩ (.int .i64 (bal k))).setCell ⟨b.D, 2, none⟩ (.slice (some ⟨b.G, 0, none⟩) (n + 1) 6)).setCell ⟨b.B, k, none⟩ (.int .i64 v)) b (updI bal k v) (jr ++ [(k, bal k)]) un := by
  subst hn
  have o := h.ok
  have nD : ∀ {x y : Value} {p q : Nat} {oo v}, At w b.D oo v → At ((w.setCell ⟨b.G, p, none⟩ x).setCell ⟨b.G, q, none⟩ y) b.D oo v := fun hh => (hh.other (fun e _ => o.dg e.symm) _).other (fun e _ => o.dg e.symm) _
  have e2 : (jr ++ [(k, bal k)]).length = jr.length + 1 := by simp
  refine ⟨((nD h.d0).other (by omega) _).other (fun e _ => o.db e.symm) _, ((nD h.d1).other (by omega) _).other (fun e _ => o.db e.symm) _, ?_, ((nD h.d3).other (by omega) _).other (fun e _ => o.db e.symm) _, fun j hj' => ?_, fun i hi => ?_, fun i hi => ((((h.has i hi).set _ _ _).set _ _ _).set _ _ _).set _ _ _, o⟩
  · rw [e2]
    exact ((nD h.d2).same _).other (fun e _ => o.db e.symm) _
  · by_cases e : j = k
    · subst e
      refine (((((h.bl j hj').other (fun e _ => o.bg e.symm) _).other (fun e _ => o.bg e.symm) _).other (fun e _ => o.db e) _).same _).val ?_
      simp [updI]
    · refine (((((h.bl j hj').other (fun e _ => o.bg e.symm) _).other (fun e _ => o.bg e.symm) _).other (fun e _ => o.db e) _).other (fun _ e' => e e'.symm) _).val ?_
      simp [updI, e]
  · rw [e2] at hi
    obtain ⟨_, g0⟩ := h.has (jr.length * 2) (by omega)
    obtain ⟨_, g1⟩ := h.has (jr.length * 2 + 1) (by omega)
    by_cases e : i = jr.length
    · subst e
      have e3 : (jr ++ [(k, bal k)])[jr.length] = (k, bal k) := by simp
      rw [e3]
      exact ⟨(((g0.same _).other (by omega) _).other (fun e _ => o.dg e) _).other (fun e _ => o.bg e) _, (((g1.other (by omega) _).same _).other (fun e _ => o.dg e) _).other (fun e _ => o.bg e) _⟩
    · have hi' : i < jr.length := by omega
      have e3 : (jr ++ [(k, bal k)])[i] = jr[i] := by rw [List.getElem_append_left hi']
      rw [e3]
      exact ⟨((((h.jg i hi').1.other (by omega) _).other (by omega) _).other (fun e _ => o.dg e) _).other (fun e _ => o.bg e) _, ((((h.jg i hi').2.other (by omega) _).other (by omega) _).other (fun e _ => o.dg e) _).other (fun e _ => o.bg e) _⟩

theorem set_any {w : World} {b : LB} {bal : Nat → Int} {jr : List (Nat × Int)} {un pT : Nat} (h : LV w b bal jr un) (ht : At w pT 0 (.pointer (some ⟨b.D, 0, none⟩))) {k : Nat} (hk : k < 4) (hj : jr.length < 6) (v : Int) :
    Calls Try.prog 96 #[.pointer (some ⟨pT, 0, none⟩), .int .i64 (k : Int), .int .i64 v] w fun e w' => e = .returned (.tuple #[]) ∧ LV w' b (updI bal k v) (jr ++ [(k, bal k)]) un ∧ Fr (S3L b) w w' := by
  have H := hid h
  have c0 := ht.c
  have d0 := h.d0.c
  have d1 := h.d1.c
  have d2 := h.d2.c
  have x2 := h.d2.f
  have bk := h.bl k hk
  have b0 := bk.c
  have y0 := bk.f
  obtain ⟨n, hn⟩ : ∃ n, n = jr.length := ⟨_, rfl⟩
  obtain ⟨_, g0⟩ := h.has (n * 2) (by omega)
  obtain ⟨_, g1⟩ := h.has (n * 2 + 1) (by omega)
  have p0 := g0.c
  have p1 := g1.c
  have q0 := g0.f
  have q1 := g1.f
  rw [← hn] at d2 hj
  have HN := hid hn
  have hk0 : (0 : Int) ≤ (k : Int) := by omega
  have hk4 : (k : Int) < 4 := by omega
  have n1 : b.D ≠ b.B := h.ok.db
  have n2 : b.D ≠ b.G := h.ok.dg
  have n3 : b.B ≠ b.G := h.ok.bg
  have hG : b.G < w.heap.size := g0.lt
  have hD : b.D < w.heap.size := h.d0.lt
  have hB : b.B < w.heap.size := bk.lt
  have HK := hid hk
  have HJ := hid hj
  have hcases : n = 0 ∨ n = 1 ∨ n = 2 ∨ n = 3 ∨ n = 4 ∨ n = 5 := by omega
  clear h ht bk g0 g1 hn hk hj
  rcases hcases with rfl | rfl | rfl | rfl | rfl | rfl
  all_goals
    go_enter Try.func96, Try.ntmps96
    go_wp2_with fail
    go_region
    go_wp2_with fail
    go_end0
    have hh := H.out.sets HK.out (by have := HN.out; have := HJ.out; omega) v HN.out
    refine ⟨rfl, (hh.fr ((Fr.refl (fun _ => False) _).alloc _) (fun _ _ h => h)).fr ((Fr.refl (fun _ => False) _).drew) (fun _ _ h => h), ?_⟩
    exact ((((((Fr.refl (S3L b) w).setCell (p := ⟨b.G, _, none⟩) (fun _ => .inr (.inr rfl)) _).setCell (p := ⟨b.G, _, none⟩) (fun _ => .inr (.inr rfl)) _).setCell (p := ⟨b.D, 2, none⟩) (fun _ => .inl rfl) _).setCell (p := ⟨b.B, k, none⟩) (fun _ => .inr (.inl rfl)) _).alloc _).drew

end Go.Proofs.Qxb6500452a
