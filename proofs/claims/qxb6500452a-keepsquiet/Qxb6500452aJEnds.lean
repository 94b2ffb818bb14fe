/- The laws of the gate's keeps. -/
import Derived.Test.Qxb6500452aHOpen
import Derived.Test.Qxb6500452aJKeep
namespace Go.Proofs.Qxb6500452a
open Go Go.RowKit Go.Deep Go.ChangeShapes Go.WideShapes Go.ChangeAt
set_option maxRecDepth 100000
set_option maxHeartbeats 800000
set_option linter.unusedSimpArgs false
set_option linter.unusedVariables false

theorem keeps_script {w : World} {a : Option Addr} {len cap : Nat} (h : IsScript w a len) (quiet : Bool) :
    Calls Try.prog 20 #[.slice a len cap, .bool quiet] w fun e w' => e = .returned (.int .i64 (-1)) ∧ Fr (fun _ => False) w w' := by
  obtain ⟨hl, h | ⟨b, off, f, rfl, hb, hs⟩⟩ := h
  · subst h
    exact keeps_any (fun _ => ⟨0, 0, 0, 0, ⟨#[]⟩, ⟨#[]⟩⟩) (fun i hi => absurd hi (Nat.not_lt_zero i)) (by omega) quiet
  · exact keeps_any f (fun i hi => ⟨b, off, rfl, hs i hi⟩) (by unfold maxLen at hl; exact hl) quiet

theorem keepsUpTo_loud {w : World} {a : Option Addr} {len cap : Nat} (h : IsScript w a len) :
    Calls Try.prog 10 #[.slice a len cap] w fun e w' => e = .returned (.int .i64 (-1)) ∧ Fr (fun _ => False) w w' := by
  go_enter Try.func10, Try.ntmps10
  go_wp2_with fail
  refine (keeps_script h false).mono ?_
  rintro e w1 ⟨rfl, hf⟩
  go_wp2_with fail
  go_ret
  exact ⟨rfl, hf⟩

theorem keepsUpTo_quiet {w : World} {a : Option Addr} {len cap : Nat} (h : IsScript w a len) :
    Calls Try.prog 11 #[.slice a len cap] w fun e w' => e = .returned (.int .i64 (-1)) ∧ Fr (fun _ => False) w w' := by
  go_enter Try.func11, Try.ntmps11
  go_wp2_with fail
  refine (keeps_script h true).mono ?_
  rintro e w1 ⟨rfl, hf⟩
  go_wp2_with fail
  go_ret
  exact ⟨rfl, hf⟩

theorem keeps_walk {w : World} {a : Option Addr} {len cap : Nat} (h : IsScript w a len) :
    Calls Try.prog 3 #[.slice a len cap] w fun e w' => e = .returned (.bool true) ∧ Below w.heap.size w w' := by
  go_enter Try.func3, Try.ntmps3
  go_wp2_with fail
  refine (keepsUpTo_loud h).mono ?_
  rintro e w1 ⟨rfl, hf⟩
  go_wp2_with fail
  go_ret
  exact ⟨rfl, hf.below⟩

theorem keepsQuiet_walk {w : World} {a : Option Addr} {len cap : Nat} (h : IsScript w a len) :
    Calls Try.prog 4 #[.slice a len cap] w fun e w' => e = .returned (.bool true) ∧ Below w.heap.size w w' := by
  go_enter Try.func4, Try.ntmps4
  go_wp2_with fail
  refine (keepsUpTo_quiet h).mono ?_
  rintro e w1 ⟨rfl, hf⟩
  go_wp2_with fail
  go_ret
  exact ⟨rfl, hf.below⟩

end Go.Proofs.Qxb6500452a
