/- The law Keeps: its walk. -/
import Derived.Test.Qxb6500450aQOpen
import Derived.Test.Qxb6500450aRKeep
namespace Go.Proofs.Qxb6500450a
open Go Go.RowKit Go.Deep Go.ChangeShapes Go.WideShapes Go.ChangeAt
set_option maxRecDepth 100000
set_option maxHeartbeats 800000
set_option linter.unusedSimpArgs false
set_option linter.unusedVariables false

theorem keepsUpTo_script {w : World} {a : Option Addr} {len cap : Nat} (h : IsScript w a len) :
    Calls Try.prog 5 #[.slice a len cap] w fun e w' => e = .returned (.int .i64 (-1)) ∧ Fr (fun _ => False) w w' := by
  obtain ⟨hl, h | ⟨b, off, f, rfl, hb, hs⟩⟩ := h
  · subst h
    exact keepsUpTo_any (fun _ => ⟨0, 0, 0, 0, ⟨#[]⟩, ⟨#[]⟩⟩) (fun i hi => absurd hi (Nat.not_lt_zero i)) (by omega)
  · exact keepsUpTo_any f (fun i hi => ⟨b, off, rfl, hs i hi⟩) (by unfold maxLen at hl; exact hl)

theorem keeps_walk {w : World} {a : Option Addr} {len cap : Nat} (h : IsScript w a len) :
    Calls Try.prog 3 #[.slice a len cap] w fun e w' => e = .returned (.bool true) ∧ Below w.heap.size w w' := by
  go_enter Try.func3, Try.ntmps3
  go_wp2_with fail
  refine (keepsUpTo_script h).mono ?_
  rintro e w1 ⟨rfl, hf⟩
  go_wp2_with fail
  go_ret
  exact ⟨rfl, hf.below⟩

end Go.Proofs.Qxb6500450a
