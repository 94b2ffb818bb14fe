/-
  No cell of these rows narrows 'for every input' (looked for: loops, veiled, ifaces, maps, wideKeys, modest, calm, conditions, laid).
  DERIVED. THE GIVEN ROWS OF THIS SEAT. 5 by the template 'for every input the law returns true; each argument reads behind the call as it read before'; 0 by the template 'total and deterministic' (their statements: Qxb6500449aTotals.lean).
  GIVEN WITH THE SEED: the statements are not yours to turn. If you find one false, say at which input.
  Laid BY PROGRAM, IN A SANDBOX (cutbox-rows.mjs): the forced cells as the released guide's own fill.sh prints them over the translation 63109c8d2495c861… (all of the seat's roots in one cut). By AI agents, Wed Nov 11 2026. No macro, syntax, notation, axiom, sorry.
-/
import Derived.Test.Qxb6500449aChecked
import GoSem.Claim
import GoSem.ClaimJoined
import GoSem.ClaimMapViews
import Derived.JoinedTies
import Derived.KernelRfl
namespace Go.Proofs.Qxb6500449a
/- THE CELL 'sum', in the pinned program and in every row, IS THE sha256 OF THE DUMP (.gsa) THAT Qxb6500449aProg.lean LOADS. Nothing in Lean hashes anything: it is a label: what it is worth is what the hold of that sum in a sandbox is worth. -/
noncomputable def Try.pinned : Pinned := { name := "qxb6500449a", sum := "63109c8d2495c861af62cceb6af88d900687c2b8bb5d53fd4511a43aead61ddb", checked := Try.checked }
namespace Rows
def none {H : Type} : Left H := { results := [], args := [] }

/-- 'indexlaw.Keeps': WHATEVER THE INPUT: true; the input reads as it did. -/
def keepsSpec : ChangeSpec := { name := "keeps", fn := fun _ => fun
  | [d] => { results := [.lit (.bool true)], args := [d] }
  | _ => none }
def keepsRow : OpenClaim := { program := "qxb6500449a", sum := "63109c8d2495c861af62cceb6af88d900687c2b8bb5d53fd4511a43aead61ddb", func := "e2e/indexlaw.Keeps", spec := "keeps", recurses := true, plainKeys := false, apart := false }
def KeepsSaid : Prop := keepsRow.holds Try.pinned (OpenSpec.ofChange keepsSpec)

/-- ITS FALSE NEIGHBOUR: 'it returns false'. Refute it at one input. -/
def keepsWrong : ChangeSpec := { name := "keeps", fn := fun _ => fun
  | [d] => { results := [.lit (.bool false)], args := [d] }
  | _ => none }
def KeepsWrongFalsely : Prop := keepsRow.holds Try.pinned (OpenSpec.ofChange keepsWrong)

/-- 'indexlaw.Refines': WHATEVER THE INPUT: true; the input reads as it did. -/
def refinesSpec : ChangeSpec := { name := "refines", fn := fun _ => fun
  | [d] => { results := [.lit (.bool true)], args := [d] }
  | _ => none }
def refinesRow : OpenClaim := { program := "qxb6500449a", sum := "63109c8d2495c861af62cceb6af88d900687c2b8bb5d53fd4511a43aead61ddb", func := "e2e/indexlaw.Refines", spec := "refines", recurses := true, plainKeys := false, apart := false }
def RefinesSaid : Prop := refinesRow.holds Try.pinned (OpenSpec.ofChange refinesSpec)

/-- ITS FALSE NEIGHBOUR: 'it returns false'. Refute it at one input. -/
def refinesWrong : ChangeSpec := { name := "refines", fn := fun _ => fun
  | [d] => { results := [.lit (.bool false)], args := [d] }
  | _ => none }
def RefinesWrongFalsely : Prop := refinesRow.holds Try.pinned (OpenSpec.ofChange refinesWrong)

/-- 'indexlaw.RefinesQuiet': WHATEVER THE INPUT: true; the input reads as it did. -/
def refinesQuietSpec : ChangeSpec := { name := "refinesQuiet", fn := fun _ => fun
  | [d] => { results := [.lit (.bool true)], args := [d] }
  | _ => none }
def refinesQuietRow : OpenClaim := { program := "qxb6500449a", sum := "63109c8d2495c861af62cceb6af88d900687c2b8bb5d53fd4511a43aead61ddb", func := "e2e/indexlaw.RefinesQuiet", spec := "refinesQuiet", recurses := true, plainKeys := false, apart := false }
def RefinesQuietSaid : Prop := refinesQuietRow.holds Try.pinned (OpenSpec.ofChange refinesQuietSpec)

/-- ITS FALSE NEIGHBOUR: 'it returns false'. Refute it at one input. -/
def refinesQuietWrong : ChangeSpec := { name := "refinesQuiet", fn := fun _ => fun
  | [d] => { results := [.lit (.bool false)], args := [d] }
  | _ => none }
def RefinesQuietWrongFalsely : Prop := refinesQuietRow.holds Try.pinned (OpenSpec.ofChange refinesQuietWrong)

/-- 'indexlaw.EdgeCopiedOutStoredBack': WHATEVER THE INPUT: true; the input reads as it did. -/
def edgeCopiedOutStoredBackSpec : ChangeSpec := { name := "edgeCopiedOutStoredBack", fn := fun _ => fun
  | [] => { results := [.lit (.bool true)], args := [] }
  | _ => none }
def edgeCopiedOutStoredBackRow : OpenClaim := { program := "qxb6500449a", sum := "63109c8d2495c861af62cceb6af88d900687c2b8bb5d53fd4511a43aead61ddb", func := "e2e/indexlaw.EdgeCopiedOutStoredBack", spec := "edgeCopiedOutStoredBack", plainKeys := false, apart := false }
def EdgeCopiedOutStoredBackSaid : Prop := edgeCopiedOutStoredBackRow.holds Try.pinned (OpenSpec.ofChange edgeCopiedOutStoredBackSpec)

/-- ITS FALSE NEIGHBOUR: 'it returns false'. Refute it at one input. -/
def edgeCopiedOutStoredBackWrong : ChangeSpec := { name := "edgeCopiedOutStoredBack", fn := fun _ => fun
  | [] => { results := [.lit (.bool false)], args := [] }
  | _ => none }
def EdgeCopiedOutStoredBackWrongFalsely : Prop := edgeCopiedOutStoredBackRow.holds Try.pinned (OpenSpec.ofChange edgeCopiedOutStoredBackWrong)

/-- 'indexlaw.Examples': WHATEVER THE INPUT: true; the input reads as it did. -/
def examplesSpec : ChangeSpec := { name := "examples", fn := fun _ => fun
  | [] => { results := [.lit (.bool true)], args := [] }
  | _ => none }
def examplesRow : OpenClaim := { program := "qxb6500449a", sum := "63109c8d2495c861af62cceb6af88d900687c2b8bb5d53fd4511a43aead61ddb", func := "e2e/indexlaw.Examples", spec := "examples", recurses := true, plainKeys := false, apart := false }
def ExamplesSaid : Prop := examplesRow.holds Try.pinned (OpenSpec.ofChange examplesSpec)

/-- ITS FALSE NEIGHBOUR: 'it returns false'. Refute it at one input. -/
def examplesWrong : ChangeSpec := { name := "examples", fn := fun _ => fun
  | [] => { results := [.lit (.bool false)], args := [] }
  | _ => none }
def ExamplesWrongFalsely : Prop := examplesRow.holds Try.pinned (OpenSpec.ofChange examplesWrong)

end Rows
end Go.Proofs.Qxb6500449a
