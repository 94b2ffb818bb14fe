/- The laws of keeps. -/
import Derived.Test.Qxb6500453aYOpen
import Derived.Test.Qxb6500453aZKeepB
namespace Go.Proofs.Qxb6500453a
open Go Go.RowKit Go.Deep Go.ChangeShapes Go.WideShapes Go.ChangeAt
set_option maxRecDepth 100000
set_option maxHeartbeats 800000
set_option linter.unusedSimpArgs false
set_option linter.unusedVariables false

theorem keeps_none (w : World) (a : Option Addr) (cap : Nat) (quiet : Bool) :
    Calls Try.prog 9 #[.slice a 0 cap, .bool quiet] w fun e w' => e = .returned (.int .i64 (-1)) ∧ Fr (fun _ => False) w w' := by
  go_enter Try.func9, Try.ntmps9
  go_wp2_with fail
  refine (ground_any _).mono ?_
  rintro e w1 ⟨bT, bC, bR, rfl, hr1, hn1, hf1⟩
  have R1 := hid hr1
  have F1 := hid hf1
  clear hr1 hn1 hf1
  go_wp2_with fail
  have R2 := hid (R1.out.fr ((Fr.refl (fun _ => False) w1).alloc (.cells #[.pointer (some ⟨bT, 0, none⟩)] 28)) (fun h => h) (fun h => h) (fun h => h))
  refine (lnew_any R2.out).mono ?_
  rintro e w2 ⟨lb, rfl, _, _, _, lr, hl, f2⟩
  have F2 := hid ((F1.out.alloc _).trans f2)
  clear lr hl f2 R1 R2 F1
  go_wp2_with fail
  refine (fresh_any _).mono ?_
  rintro e w3 ⟨P, hP, rfl, gg, f3⟩
  have HF := hid (F2.out.trans f3)
  clear hP gg f3 F2
  go_wp2_with fail
  refine wp_loop_rounds 1 ?_
  rw [rounds_succ]
  go_wp2_with fail
  go_ret
  exact ⟨rfl, HF.out⟩

theorem keeps_script {w : World} {a : Option Addr} {len cap : Nat} (h : IsScript w a len) (quiet : Bool) :
    Calls Try.prog 9 #[.slice a len cap, .bool quiet] w fun e w' => e = .returned (.int .i64 (-1)) ∧ Fr (fun _ => False) w w' := by
  obtain ⟨hl, h | ⟨b, off, f, rfl, hb, hs⟩⟩ := h
  · subst h; exact keeps_none w a cap quiet
  · exact keepsB_any f hb hs (by unfold maxLen at hl; exact hl) quiet

theorem keeps_walk {w : World} {a : Option Addr} {len cap : Nat} (h : IsScript w a len) :
    Calls Try.prog 3 #[.slice a len cap] w fun e w' => e = .returned (.bool true) ∧ Below w.heap.size w w' := by
  go_enter Try.func3, Try.ntmps3
  go_wp2_with fail
  refine (keeps_script h false).mono ?_
  rintro e w1 ⟨rfl, hf⟩
  go_wp2_with fail
  go_ret
  exact ⟨rfl, hf.below⟩

theorem keepsQuiet_walk {w : World} {a : Option Addr} {len cap : Nat} (h : IsScript w a len) :
    Calls Try.prog 4 #[.slice a len cap] w fun e w' => e = .returned (.bool true) ∧ Below w.heap.size w w' := by
  go_enter Try.func4, Try.ntmps4
  go_wp2_with fail
  refine (keeps_script h true).mono ?_
  rintro e w1 ⟨rfl, hf⟩
  go_wp2_with fail
  go_ret
  exact ⟨rfl, hf.below⟩

end Go.Proofs.Qxb6500453a
