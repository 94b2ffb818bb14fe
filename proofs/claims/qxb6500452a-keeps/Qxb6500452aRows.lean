/-
  No cell of these rows narrows 'for every input' (looked for: loops, veiled, ifaces, maps, wideKeys, modest, calm, conditions, laid).
  DERIVED. THE GIVEN ROWS OF THIS SEAT. 7 by the template 'for every input the law returns true; each argument reads behind the call as it read before'; 0 by the template 'total and deterministic' (their statements: Qxb6500452aTotals.lean).
  GIVEN WITH THE SEED: the statements are not yours to turn. If you find one false, say at which input.
  Laid BY PROGRAM, IN A SANDBOX (cutbox-rows.mjs): the forced cells as the released guide's own fill.sh prints them over the translation b2d04276df470e1f… (all of the seat's roots in one cut). By AI agents, Wed Nov 11 2026. No macro, syntax, notation, axiom, sorry.
-/
import Derived.Test.Qxb6500452aChecked
import GoSem.Claim
import GoSem.ClaimJoined
import GoSem.ClaimMapViews
import Derived.JoinedTies
import Derived.KernelRfl
namespace Go.Proofs.Qxb6500452a
/- THE CELL 'sum', in the pinned program and in every row, IS THE sha256 OF THE DUMP (.gsa) THAT Qxb6500452aProg.lean LOADS. Nothing in Lean hashes anything: it is a label: what it is worth is what the hold of that sum in a sandbox is worth. -/
noncomputable def Try.pinned : Pinned := { name := "qxb6500452a", sum := "b2d04276df470e1f146d5b33d6f1a69118db074a06dc18da59dd7a4419316eb3", checked := Try.checked }
namespace Rows
def none {H : Type} : Left H := { results := [], args := [] }

/-- 'gatelaw.Keeps': WHATEVER THE INPUT: true; the input reads as it did. -/
def keepsSpec : ChangeSpec := { name := "keeps", fn := fun _ => fun
  | [d] => { results := [.lit (.bool true)], args := [d] }
  | _ => none }
def keepsRow : OpenClaim := { program := "qxb6500452a", sum := "b2d04276df470e1f146d5b33d6f1a69118db074a06dc18da59dd7a4419316eb3", func := "e2e/gatelaw.Keeps", spec := "keeps", unfollowed := true, recurses := true, apart := false }
def KeepsSaid : Prop := keepsRow.holds Try.pinned (OpenSpec.ofChange keepsSpec)

/-- ITS FALSE NEIGHBOUR: 'it returns false'. Refute it at one input. -/
def keepsWrong : ChangeSpec := { name := "keeps", fn := fun _ => fun
  | [d] => { results := [.lit (.bool false)], args := [d] }
  | _ => none }
def KeepsWrongFalsely : Prop := keepsRow.holds Try.pinned (OpenSpec.ofChange keepsWrong)

/-- 'gatelaw.KeepsQuiet': WHATEVER THE INPUT: true; the input reads as it did. -/
def keepsQuietSpec : ChangeSpec := { name := "keepsQuiet", fn := fun _ => fun
  | [d] => { results := [.lit (.bool true)], args := [d] }
  | _ => none }
def keepsQuietRow : OpenClaim := { program := "qxb6500452a", sum := "b2d04276df470e1f146d5b33d6f1a69118db074a06dc18da59dd7a4419316eb3", func := "e2e/gatelaw.KeepsQuiet", spec := "keepsQuiet", unfollowed := true, recurses := true, apart := false }
def KeepsQuietSaid : Prop := keepsQuietRow.holds Try.pinned (OpenSpec.ofChange keepsQuietSpec)

/-- ITS FALSE NEIGHBOUR: 'it returns false'. Refute it at one input. -/
def keepsQuietWrong : ChangeSpec := { name := "keepsQuiet", fn := fun _ => fun
  | [d] => { results := [.lit (.bool false)], args := [d] }
  | _ => none }
def KeepsQuietWrongFalsely : Prop := keepsQuietRow.holds Try.pinned (OpenSpec.ofChange keepsQuietWrong)

/-- 'gatelaw.Refines': WHATEVER THE INPUT: true; the input reads as it did. -/
def refinesSpec : ChangeSpec := { name := "refines", fn := fun _ => fun
  | [d] => { results := [.lit (.bool true)], args := [d] }
  | _ => none }
def refinesRow : OpenClaim := { program := "qxb6500452a", sum := "b2d04276df470e1f146d5b33d6f1a69118db074a06dc18da59dd7a4419316eb3", func := "e2e/gatelaw.Refines", spec := "refines", unfollowed := true, recurses := true, apart := false }
def RefinesSaid : Prop := refinesRow.holds Try.pinned (OpenSpec.ofChange refinesSpec)

/-- ITS FALSE NEIGHBOUR: 'it returns false'. Refute it at one input. -/
def refinesWrong : ChangeSpec := { name := "refines", fn := fun _ => fun
  | [d] => { results := [.lit (.bool false)], args := [d] }
  | _ => none }
def RefinesWrongFalsely : Prop := refinesRow.holds Try.pinned (OpenSpec.ofChange refinesWrong)

/-- 'gatelaw.RefinesQuiet': WHATEVER THE INPUT: true; the input reads as it did. -/
def refinesQuietSpec : ChangeSpec := { name := "refinesQuiet", fn := fun _ => fun
  | [d] => { results := [.lit (.bool true)], args := [d] }
  | _ => none }
def refinesQuietRow : OpenClaim := { program := "qxb6500452a", sum := "b2d04276df470e1f146d5b33d6f1a69118db074a06dc18da59dd7a4419316eb3", func := "e2e/gatelaw.RefinesQuiet", spec := "refinesQuiet", unfollowed := true, recurses := true, apart := false }
def RefinesQuietSaid : Prop := refinesQuietRow.holds Try.pinned (OpenSpec.ofChange refinesQuietSpec)

/-- ITS FALSE NEIGHBOUR: 'it returns false'. Refute it at one input. -/
def refinesQuietWrong : ChangeSpec := { name := "refinesQuiet", fn := fun _ => fun
  | [d] => { results := [.lit (.bool false)], args := [d] }
  | _ => none }
def RefinesQuietWrongFalsely : Prop := refinesQuietRow.holds Try.pinned (OpenSpec.ofChange refinesQuietWrong)

/-- 'gatelaw.RefinesBlind': WHATEVER THE INPUT: true; the input reads as it did. -/
def refinesBlindSpec : ChangeSpec := { name := "refinesBlind", fn := fun _ => fun
  | [d] => { results := [.lit (.bool true)], args := [d] }
  | _ => none }
def refinesBlindRow : OpenClaim := { program := "qxb6500452a", sum := "b2d04276df470e1f146d5b33d6f1a69118db074a06dc18da59dd7a4419316eb3", func := "e2e/gatelaw.RefinesBlind", spec := "refinesBlind", unfollowed := true, recurses := true, apart := false }
def RefinesBlindSaid : Prop := refinesBlindRow.holds Try.pinned (OpenSpec.ofChange refinesBlindSpec)

/-- ITS FALSE NEIGHBOUR: 'it returns false'. Refute it at one input. -/
def refinesBlindWrong : ChangeSpec := { name := "refinesBlind", fn := fun _ => fun
  | [d] => { results := [.lit (.bool false)], args := [d] }
  | _ => none }
def RefinesBlindWrongFalsely : Prop := refinesBlindRow.holds Try.pinned (OpenSpec.ofChange refinesBlindWrong)

/-- 'gatelaw.Facts': WHATEVER THE INPUT: true; the input reads as it did. -/
def factsSpec : ChangeSpec := { name := "facts", fn := fun _ => fun
  | [] => { results := [.lit (.bool true)], args := [] }
  | _ => none }
def factsRow : OpenClaim := { program := "qxb6500452a", sum := "b2d04276df470e1f146d5b33d6f1a69118db074a06dc18da59dd7a4419316eb3", func := "e2e/gatelaw.Facts", spec := "facts", unfollowed := true, recurses := true, apart := false }
def FactsSaid : Prop := factsRow.holds Try.pinned (OpenSpec.ofChange factsSpec)

/-- ITS FALSE NEIGHBOUR: 'it returns false'. Refute it at one input. -/
def factsWrong : ChangeSpec := { name := "facts", fn := fun _ => fun
  | [] => { results := [.lit (.bool false)], args := [] }
  | _ => none }
def FactsWrongFalsely : Prop := factsRow.holds Try.pinned (OpenSpec.ofChange factsWrong)

/-- 'gatelaw.Samples': WHATEVER THE INPUT: true; the input reads as it did. -/
def samplesSpec : ChangeSpec := { name := "samples", fn := fun _ => fun
  | [] => { results := [.lit (.bool true)], args := [] }
  | _ => none }
def samplesRow : OpenClaim := { program := "qxb6500452a", sum := "b2d04276df470e1f146d5b33d6f1a69118db074a06dc18da59dd7a4419316eb3", func := "e2e/gatelaw.Samples", spec := "samples", unfollowed := true, recurses := true, apart := false }
def SamplesSaid : Prop := samplesRow.holds Try.pinned (OpenSpec.ofChange samplesSpec)

/-- ITS FALSE NEIGHBOUR: 'it returns false'. Refute it at one input. -/
def samplesWrong : ChangeSpec := { name := "samples", fn := fun _ => fun
  | [] => { results := [.lit (.bool false)], args := [] }
  | _ => none }
def SamplesWrongFalsely : Prop := samplesRow.holds Try.pinned (OpenSpec.ofChange samplesWrong)

end Rows
end Go.Proofs.Qxb6500452a
