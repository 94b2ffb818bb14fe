/- The script's steps, cell by cell. -/
import Derived.Test.Qxb6500450aGreatQDo
namespace Go.Proofs.Qxb6500450aGreat
open Go Go.RowKit
set_option maxRecDepth 100000
set_option maxHeartbeats 1600000
set_option linter.unusedSimpArgs false
set_option linter.unusedVariables false

/-- Step i of the script, cell by cell. -/
def StpAt (w : World) (b p : Nat) (o : Stp) : Prop :=
  w.cell? ⟨b, p, none⟩ = some (.int .i64 o.kind) ∧ w.cell? ⟨b, p + 1, none⟩ = some (.int .i64 o.a) ∧ w.cell? ⟨b, p + 2, none⟩ = some (.int .i64 o.b) ∧
  w.cell? ⟨b, p + 3, none⟩ = some (.int .i64 o.c) ∧ w.cell? ⟨b, p + 4, none⟩ = some (.string o.s) ∧ w.cell? ⟨b, p + 5, none⟩ = some (.string o.t)
theorem StpAt.frS {w w' : World} {b p : Nat} {o : Stp} {S : Nat → Prop} (h : StpAt w b p o) (hf : Fr S w w') (hn : ¬ S b) : StpAt w' b p o := by
  obtain ⟨h0, h1, h2, h3, h4, h5⟩ := h
  have hb : b < w.heap.size := World.block_lt_of_cell? (a := ⟨b, p, none⟩) w h0
  have e : ∀ q, w'.cell? ⟨b, q, none⟩ = w.cell? ⟨b, q, none⟩ := fun q => hf.cell (p := ⟨b, q, none⟩) hb hn
  exact ⟨by rw [e, h0], by rw [e, h1], by rw [e, h2], by rw [e, h3], by rw [e, h4], by rw [e, h5]⟩
theorem StpAt.new (w : World) (o : Stp) : StpAt (w.alloc (.cells #[.int .i64 o.kind, .int .i64 o.a, .int .i64 o.b, .int .i64 o.c, .string o.s, .string o.t] 37)) w.heap.size 0 o :=
  ⟨(At.new w _ _ rfl).c, (At.new w _ _ rfl).c, (At.new w _ _ rfl).c, (At.new w _ _ rfl).c, (At.new w _ _ rfl).c, (At.new w _ _ rfl).c⟩
theorem StpAt.fr {w w' : World} {b p : Nat} {o : Stp} (h : StpAt w b p o) (hf : Fr (fun _ => False) w w') : StpAt w' b p o := h.frS hf (fun h => h)
theorem StpAt.lt {w : World} {b p : Nat} {o : Stp} (h : StpAt w b p o) : b < w.heap.size := World.block_lt_of_cell? (a := ⟨b, p, none⟩) w h.1

/-- The answer in its box. -/
structure AnsAt (w : World) (pA : Nat) (e n m : Int) (s : ByteArray) : Prop where
  a0 : At w pA 0 (.int .i64 e)
  a1 : At w pA 1 (.int .i64 n)
  a2 : At w pA 2 (.int .i64 m)
  a3 : At w pA 3 (.string s)
theorem AnsAt.fr {w w' : World} {pA : Nat} {e n m : Int} {s : ByteArray} (h : AnsAt w pA e n m s) {S : Nat → Prop} (hf : Fr S w w') (hn : ¬ S pA) : AnsAt w' pA e n m s := ⟨h.a0.fr hf hn, h.a1.fr hf hn, h.a2.fr hf hn, h.a3.fr hf hn⟩
theorem AnsAt.new (w : World) (e n m : Int) (s : ByteArray) : AnsAt (w.alloc (.cells #[.int .i64 e, .int .i64 n, .int .i64 m, .string s] 41)) w.heap.size e n m s := ⟨At.new w _ _ rfl, At.new w _ _ rfl, At.new w _ _ rfl, At.new w _ _ rfl⟩

theorem doR_le (f : DocF) (r : Int → Nat) (o : Stp) {k : Nat} (h : ∀ j, r j ≤ k) (j : Int) : doR f r o j ≤ k + 1 := by
  have := h j
  unfold doR putR incC
  split
  · split
    · show (if j = o.a then r j + 1 else r j) ≤ k + 1
      split <;> omega
    · omega
  · omega
theorem doN_nonneg (f : DocF) (o : Stp) : 0 ≤ doN f o := by
  unfold doN
  repeat' split
  all_goals omega

end Go.Proofs.Qxb6500450aGreat
