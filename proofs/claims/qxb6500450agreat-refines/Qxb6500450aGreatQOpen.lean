/- The script that came in, opened: a slice of steps. -/
import Derived.Test.Qxb6500450aGreatRows
import Derived.Test.Qxb6500450aGreatQStep
import Derived.ProofKit
import Derived.OpenShut
import Derived.ShutString
import Derived.ChangeOld
import Derived.Below
import Derived.Deep.Slices
namespace Go.Proofs.Qxb6500450aGreat
open Go Go.RowKit Go.Deep Go.ChangeShapes Go.WideShapes
set_option maxRecDepth 100000
set_option linter.unusedSimpArgs false
set_option linter.unusedVariables false

theorem own : ownKnob Tryz.prog.godebug = none := by kernel_rfl
theorem laidOut : laidOutB Tryz.prog = true := by kernel_rfl
theorem szOp : Tryz.prog.cellsOf 37 = 6 := by kernel_rfl
theorem szInt : Tryz.prog.cellsOf 3 = 1 := by kernel_rfl
theorem szStr : Tryz.prog.cellsOf 9 = 1 := by kernel_rfl

/-- What the walk is told of the script. -/
def IsScript (w : World) (a : Option Addr) (len : Nat) : Prop :=
  len ≤ maxLen ∧ (len = 0 ∨ ∃ (b off : Nat) (f : Nat → Stp), a = some ⟨b, off, none⟩ ∧ b < w.heap.size ∧ ∀ i, i < len → StpAt w b (off + i * 6) (f i))

theorem stp_of_cells {H : Type} {enc : TypeId × Value → H} {W : World} {base : Nat} {spare : Nat → Bool} {held : Bool} {n : Nat} {cs : List Value} {y : DataW H × List MemPlace}
    (h : DataW.trod enc Tryz.prog W base spare held n 37 cs = some y) : ∃ o : Stp, cs = [.int .i64 o.kind, .int .i64 o.a, .int .i64 o.b, .int .i64 o.c, .string o.s, .string o.t] := by
  obtain ⟨xs, m, _, _, hl, hlen, hf⟩ := DataW.trod_struct Tryz.underlying37 h
  rw [szOp] at hl
  match cs, hl with
  | [c0, c1, c2, c3, c4, c5], _ =>
    match xs, hlen with
    | [y0, y1, y2, y3, y4, y5], _ =>
      have h0 := hf 0 ⟨"Kind", 3, 0, false, "", "", 0⟩ rfl
      have h1 := hf 1 ⟨"A", 3, 1, false, "", "", 8⟩ rfl
      have h2 := hf 2 ⟨"B", 3, 2, false, "", "", 16⟩ rfl
      have h3 := hf 3 ⟨"C", 3, 3, false, "", "", 24⟩ rfl
      have h4 := hf 4 ⟨"S", 9, 4, false, "", "", 32⟩ rfl
      have h5 := hf 5 ⟨"T", 9, 5, false, "", "", 48⟩ rfl
      simp only [szInt, szStr] at h0 h1 h2 h3 h4 h5
      obtain ⟨k0, e0, _⟩ := DataW.trod_int Tryz.underlying3 h0
      obtain ⟨k1, e1, _⟩ := DataW.trod_int Tryz.underlying3 h1
      obtain ⟨k2, e2, _⟩ := DataW.trod_int Tryz.underlying3 h2
      obtain ⟨k3, e3, _⟩ := DataW.trod_int Tryz.underlying3 h3
      obtain ⟨k4, e4, _⟩ := DataW.trod_string Tryz.underlying9 h4
      obtain ⟨k5, e5, _⟩ := DataW.trod_string Tryz.underlying9 h5
      simp at e0 e1 e2 e3 e4 e5
      subst e0 e1 e2 e3 e4 e5
      exact ⟨⟨k0, k1, k2, k3, k4, k5⟩, rfl⟩

theorem script_open {H : Type} {enc : TypeId × Value → H} {W : World} {base : Nat} {spare : Nat → Bool} {held : Bool} {fuel : Nat} {a : Option Addr} {len cap : Nat} {x : DataW H × List MemPlace}
    (h : DataW.trod enc Tryz.prog W base spare held fuel 22 [.slice a len cap] = some x) : IsScript W a len := by
  rcases open_slice Tryz.underlying22 h with ⟨hcs, _⟩ | ⟨ad, l, c, m, n, D, Pl, hcs, hb, hl, hm, hmm, hx, hel⟩
  · simp at hcs
    obtain ⟨rfl, rfl, rfl⟩ := hcs
    exact ⟨Nat.zero_le _, .inl rfl⟩
  · simp at hcs
    obtain ⟨rfl, rfl, rfl⟩ := hcs
    refine ⟨by omega, ?_⟩
    by_cases h0 : len = 0
    · exact .inl h0
    right
    have hlm : len ≤ m := by rw [hmm]; split <;> omega
    have key : ∀ i, i < len → ∃ o : Stp, W.cell? (ad.add (i * 6)) = some (.int .i64 o.kind) ∧ W.cell? ((ad.add (i * 6)).add 1) = some (.int .i64 o.a) ∧ W.cell? ((ad.add (i * 6)).add 2) = some (.int .i64 o.b) ∧
        W.cell? ((ad.add (i * 6)).add 3) = some (.int .i64 o.c) ∧ W.cell? ((ad.add (i * 6)).add 4) = some (.string o.s) ∧ W.cell? ((ad.add (i * 6)).add 5) = some (.string o.t) := by
      intro i hi
      obtain ⟨cs', h1, h2⟩ := hel i (by omega)
      rw [szOp] at h1
      obtain ⟨_, hlen, hc⟩ := World.cells?_some h1
      obtain ⟨o, rfl⟩ := stp_of_cells h2
      exact ⟨o, by simpa [Addr.add] using hc 0 (by omega), by simpa using hc 1 (by omega), by simpa using hc 2 (by omega), by simpa using hc 3 (by omega), by simpa using hc 4 (by omega), by simpa using hc 5 (by omega)⟩
    obtain ⟨o0, z0, _⟩ := key 0 (by omega)
    simp [Addr.add] at z0
    obtain ⟨b, off, spot⟩ := ad
    have hspot : spot = none := by
      cases spot with
      | none => rfl
      | some q => simp [World.cell?] at z0; split at z0 <;> simp_all
    subst hspot
    have hin : Inhabited Stp := ⟨⟨0, 0, 0, 0, ByteArray.empty, ByteArray.empty⟩⟩
    obtain ⟨f, hf⟩ := choose_lt (α := Stp) (p := fun i o => StpAt W b (off + i * 6) o) (fun i hi => by
      obtain ⟨o, k0, k1, k2, k3, k4, k5⟩ := key i hi
      simp only [add_addr] at k0 k1 k2 k3 k4 k5
      exact ⟨o, k0, k1, k2, k3, k4, k5⟩)
    exact ⟨b, off, f, rfl, World.block_lt_of_cell? (a := ⟨b, off, none⟩) W z0, hf⟩

end Go.Proofs.Qxb6500450aGreat
