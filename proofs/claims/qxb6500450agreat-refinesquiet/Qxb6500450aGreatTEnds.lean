/- The laws of the walk. -/
import Derived.Test.Qxb6500450aGreatQOpen
import Derived.Test.Qxb6500450aGreatTWalk
namespace Go.Proofs.Qxb6500450aGreat
open Go Go.RowKit Go.Deep Go.ChangeShapes Go.WideShapes Go.ChangeAt
set_option maxRecDepth 100000
set_option maxHeartbeats 800000
set_option linter.unusedSimpArgs false
set_option linter.unusedVariables false

theorem walk_script {w : World} {a : Option Addr} {len cap : Nat} (h : IsScript w a len) (quiet : Bool) :
    Calls Tryz.prog 7 #[.slice a len cap, .bool quiet] w fun e w' => ∃ n : Int, e = .returned (.tuple #[.int .i64 (-1), .int .i64 n]) ∧ Fr (fun _ => False) w w' := by
  obtain ⟨hl, h | ⟨b, off, f, rfl, hb, hs⟩⟩ := h
  · subst h
    exact walk_any (fun _ => ⟨0, 0, 0, 0, ⟨#[]⟩, ⟨#[]⟩⟩) (fun i hi => absurd hi (Nat.not_lt_zero i)) (by omega) quiet
  · exact walk_any f (fun i hi => ⟨b, off, rfl, hs i hi⟩) (by unfold maxLen at hl; exact hl) quiet

theorem upTo_loud {w : World} {a : Option Addr} {len cap : Nat} (h : IsScript w a len) :
    Calls Tryz.prog 5 #[.slice a len cap] w fun e w' => e = .returned (.int .i64 (-1)) ∧ Fr (fun _ => False) w w' := by
  go_enter Tryz.func5, Tryz.ntmps5
  go_wp2_with fail
  refine (walk_script h false).mono ?_
  rintro e w1 ⟨n, rfl, hf⟩
  go_wp2_with fail
  go_ret
  exact ⟨rfl, hf⟩

theorem upTo_quiet {w : World} {a : Option Addr} {len cap : Nat} (h : IsScript w a len) :
    Calls Tryz.prog 6 #[.slice a len cap] w fun e w' => e = .returned (.int .i64 (-1)) ∧ Fr (fun _ => False) w w' := by
  go_enter Tryz.func6, Tryz.ntmps6
  go_wp2_with fail
  refine (walk_script h true).mono ?_
  rintro e w1 ⟨n, rfl, hf⟩
  go_wp2_with fail
  go_ret
  exact ⟨rfl, hf⟩

theorem refines_walk {w : World} {a : Option Addr} {len cap : Nat} (h : IsScript w a len) :
    Calls Tryz.prog 3 #[.slice a len cap] w fun e w' => e = .returned (.bool true) ∧ Below w.heap.size w w' := by
  go_enter Tryz.func3, Tryz.ntmps3
  go_wp2_with fail
  refine (upTo_loud h).mono ?_
  rintro e w1 ⟨rfl, hf⟩
  go_wp2_with fail
  go_ret
  exact ⟨rfl, hf.below⟩

theorem refinesQuiet_walk {w : World} {a : Option Addr} {len cap : Nat} (h : IsScript w a len) :
    Calls Tryz.prog 4 #[.slice a len cap] w fun e w' => e = .returned (.bool true) ∧ Below w.heap.size w w' := by
  go_enter Tryz.func4, Tryz.ntmps4
  go_wp2_with fail
  refine (upTo_quiet h).mono ?_
  rintro e w1 ⟨rfl, hf⟩
  go_wp2_with fail
  go_ret
  exact ⟨rfl, hf.below⟩

end Go.Proofs.Qxb6500450aGreat
