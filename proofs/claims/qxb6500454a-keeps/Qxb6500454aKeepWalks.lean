import Derived.Test.Qxb6500454aKeep
namespace Go.Proofs.Qxb6500454a
open Go Go.RowKit
set_option maxRecDepth 100000
set_option maxHeartbeats 800000
set_option linter.unusedSimpArgs false
set_option linter.unusedVariables false

theorem keep_none (w : World) (a : Option Addr) (cap : Nat) (quiet : Bool) :
    Calls Try.prog 8 #[.slice a 0 cap, .bool quiet] w fun e w' => e = .returned (.int .i64 (-1)) ∧ Fr (fun _ => False) w w' := by
  go_enter Try.func8, Try.ntmps8
  go_wp2_with fail
  refine (ground_any _).mono ?_
  rintro e w1 ⟨rfl, hf1⟩
  go_wp2_with fail
  refine (new_any _).mono ?_
  rintro e w2 ⟨rfl, hr2, hf2⟩
  clear hr2
  go_wp2_with fail
  refine (newdesk_any _).mono ?_
  rintro e w3 ⟨rfl, hm3, hf3⟩
  have HF := hid ((hf1.trans hf2).trans hf3)
  clear hm3 hf1 hf2 hf3
  go_wp2_with fail
  refine wp_loop_rounds 1 ?_
  rw [rounds_succ]
  go_wp2_with fail
  go_ret
  exact ⟨rfl, HF.out⟩

theorem keep_script {w : World} {a : Option Addr} {len cap : Nat} (h : IsScript w a len) (quiet : Bool) :
    Calls Try.prog 8 #[.slice a len cap, .bool quiet] w fun e w' => e = .returned (.int .i64 (-1)) ∧ Fr (fun _ => False) w w' := by
  obtain ⟨hl, h | ⟨b, off, f, rfl, hb, hs⟩⟩ := h
  · subst h; exact keep_none w a cap quiet
  · exact keep_any f hb hs (by unfold maxLen at hl; exact hl) quiet

theorem keeps_walk {w : World} {a : Option Addr} {len cap : Nat} (h : IsScript w a len) :
    Calls Try.prog 3 #[.slice a len cap] w fun e w' => e = .returned (.bool true) ∧ Below w.heap.size w w' := by
  go_enter Try.func3, Try.ntmps3
  go_wp2_with fail
  refine (keep_script h false).mono ?_
  rintro e w1 ⟨rfl, hf⟩
  go_wp2_with fail
  go_ret
  exact ⟨rfl, hf.below⟩

theorem keepsQuiet_walk {w : World} {a : Option Addr} {len cap : Nat} (h : IsScript w a len) :
    Calls Try.prog 4 #[.slice a len cap] w fun e w' => e = .returned (.bool true) ∧ Below w.heap.size w w' := by
  go_enter Try.func4, Try.ntmps4
  go_wp2_with fail
  refine (keep_script h true).mono ?_
  rintro e w1 ⟨rfl, hf⟩
  go_wp2_with fail
  go_ret
  exact ⟨rfl, hf.below⟩
end Go.Proofs.Qxb6500454a
