/-
  No cell of these rows narrows 'for every input' (looked for: loops, veiled, ifaces, maps, wideKeys, modest, calm, conditions, laid).
  DERIVED. THE GIVEN ROWS OF THIS SEAT. 5 by the template 'for every input the law returns true; each argument reads behind the call as it read before'; 0 by the template 'total and deterministic' (their statements: Qxb6500451aTotals.lean).
  GIVEN WITH THE SEED: the statements are not yours to turn. If you find one false, say at which input.
  Laid BY PROGRAM, IN A SANDBOX (cutbox-rows.mjs): the forced cells as the released guide's own fill.sh prints them over the translation e9cdaf1b20d5c670… (all of the seat's roots in one cut). By AI agents, Wed Nov 11 2026. No macro, syntax, notation, axiom, sorry.
-/
import Derived.Test.Qxb6500451aChecked
import GoSem.Claim
import GoSem.ClaimJoined
import GoSem.ClaimMapViews
import Derived.JoinedTies
import Derived.KernelRfl
namespace Go.Proofs.Qxb6500451a
/- THE CELL 'sum', in the pinned program and in every row, IS THE sha256 OF THE DUMP (.gsa) THAT Qxb6500451aProg.lean LOADS. Nothing in Lean hashes anything: it is a label: what it is worth is what the hold of that sum in a sandbox is worth. -/
noncomputable def Try.pinned : Pinned := { name := "qxb6500451a", sum := "e9cdaf1b20d5c67036b27e05de54416f4bcf3c51625b74a06f5cb44480cd4a11", checked := Try.checked }
namespace Rows
def none {H : Type} : Left H := { results := [], args := [] }

/-- 'storelaw.Keeps': WHATEVER THE INPUT: true; the input reads as it did. -/
def keepsSpec : ChangeSpec := { name := "keeps", fn := fun _ => fun
  | [d] => { results := [.lit (.bool true)], args := [d] }
  | _ => none }
def keepsRow : OpenClaim := { program := "qxb6500451a", sum := "e9cdaf1b20d5c67036b27e05de54416f4bcf3c51625b74a06f5cb44480cd4a11", func := "e2e/storelaw.Keeps", spec := "keeps", recurses := true, apart := false }
def KeepsSaid : Prop := keepsRow.holds Try.pinned (OpenSpec.ofChange keepsSpec)

/-- ITS FALSE NEIGHBOUR: 'it returns false'. Refute it at one input. -/
def keepsWrong : ChangeSpec := { name := "keeps", fn := fun _ => fun
  | [d] => { results := [.lit (.bool false)], args := [d] }
  | _ => none }
def KeepsWrongFalsely : Prop := keepsRow.holds Try.pinned (OpenSpec.ofChange keepsWrong)

/-- 'storelaw.Refines': WHATEVER THE INPUT: true; the input reads as it did. -/
def refinesSpec : ChangeSpec := { name := "refines", fn := fun _ => fun
  | [d] => { results := [.lit (.bool true)], args := [d] }
  | _ => none }
def refinesRow : OpenClaim := { program := "qxb6500451a", sum := "e9cdaf1b20d5c67036b27e05de54416f4bcf3c51625b74a06f5cb44480cd4a11", func := "e2e/storelaw.Refines", spec := "refines", recurses := true, apart := false }
def RefinesSaid : Prop := refinesRow.holds Try.pinned (OpenSpec.ofChange refinesSpec)

/-- ITS FALSE NEIGHBOUR: 'it returns false'. Refute it at one input. -/
def refinesWrong : ChangeSpec := { name := "refines", fn := fun _ => fun
  | [d] => { results := [.lit (.bool false)], args := [d] }
  | _ => none }
def RefinesWrongFalsely : Prop := refinesRow.holds Try.pinned (OpenSpec.ofChange refinesWrong)

/-- 'storelaw.RefinesQuiet': WHATEVER THE INPUT: true; the input reads as it did. -/
def refinesQuietSpec : ChangeSpec := { name := "refinesQuiet", fn := fun _ => fun
  | [d] => { results := [.lit (.bool true)], args := [d] }
  | _ => none }
def refinesQuietRow : OpenClaim := { program := "qxb6500451a", sum := "e9cdaf1b20d5c67036b27e05de54416f4bcf3c51625b74a06f5cb44480cd4a11", func := "e2e/storelaw.RefinesQuiet", spec := "refinesQuiet", recurses := true, apart := false }
def RefinesQuietSaid : Prop := refinesQuietRow.holds Try.pinned (OpenSpec.ofChange refinesQuietSpec)

/-- ITS FALSE NEIGHBOUR: 'it returns false'. Refute it at one input. -/
def refinesQuietWrong : ChangeSpec := { name := "refinesQuiet", fn := fun _ => fun
  | [d] => { results := [.lit (.bool false)], args := [d] }
  | _ => none }
def RefinesQuietWrongFalsely : Prop := refinesQuietRow.holds Try.pinned (OpenSpec.ofChange refinesQuietWrong)

/-- 'storelaw.Spelt': WHATEVER THE INPUT: true; the input reads as it did. -/
def speltSpec : ChangeSpec := { name := "spelt", fn := fun _ => fun
  | [] => { results := [.lit (.bool true)], args := [] }
  | _ => none }
def speltRow : OpenClaim := { program := "qxb6500451a", sum := "e9cdaf1b20d5c67036b27e05de54416f4bcf3c51625b74a06f5cb44480cd4a11", func := "e2e/storelaw.Spelt", spec := "spelt", recurses := true, apart := false }
def SpeltSaid : Prop := speltRow.holds Try.pinned (OpenSpec.ofChange speltSpec)

/-- ITS FALSE NEIGHBOUR: 'it returns false'. Refute it at one input. -/
def speltWrong : ChangeSpec := { name := "spelt", fn := fun _ => fun
  | [] => { results := [.lit (.bool false)], args := [] }
  | _ => none }
def SpeltWrongFalsely : Prop := speltRow.holds Try.pinned (OpenSpec.ofChange speltWrong)

/-- 'storelaw.Examples': WHATEVER THE INPUT: true; the input reads as it did. -/
def examplesSpec : ChangeSpec := { name := "examples", fn := fun _ => fun
  | [] => { results := [.lit (.bool true)], args := [] }
  | _ => none }
def examplesRow : OpenClaim := { program := "qxb6500451a", sum := "e9cdaf1b20d5c67036b27e05de54416f4bcf3c51625b74a06f5cb44480cd4a11", func := "e2e/storelaw.Examples", spec := "examples", recurses := true, apart := false }
def ExamplesSaid : Prop := examplesRow.holds Try.pinned (OpenSpec.ofChange examplesSpec)

/-- ITS FALSE NEIGHBOUR: 'it returns false'. Refute it at one input. -/
def examplesWrong : ChangeSpec := { name := "examples", fn := fun _ => fun
  | [] => { results := [.lit (.bool false)], args := [] }
  | _ => none }
def ExamplesWrongFalsely : Prop := examplesRow.holds Try.pinned (OpenSpec.ofChange examplesWrong)

end Rows
end Go.Proofs.Qxb6500451a
