import Derived.Test.Qxb6500452aLPair
namespace Go.Proofs.Qxb6500452a
open Go Go.RowKit
set_option maxRecDepth 100000
set_option maxHeartbeats 800000
set_option linter.unusedSimpArgs false
set_option linter.unusedVariables false

theorem mk54 (w : World) : (Instr.makeSlice 83 (.int .i64 4) (.int .i64 4)).run Try.prog w = .ok (.slice (some ⟨w.heap.size, 0, none⟩) 4 4) (w.alloc (.cells #[.int .i64 0, .int .i64 0, .int .i64 0, .int .i64 0, .int .i64 0, .int .i64 0, .int .i64 0, .int .i64 0] 88)) := by kernel_rfl

def zeros24 : Array Value := #[.int .u8 0, .int .u8 0, .int .u8 0, .int .u8 0, .int .u8 0, .int .u8 0, .int .u8 0, .int .u8 0, .int .u8 0, .int .u8 0, .int .u8 0, .int .u8 0, .int .u8 0, .int .u8 0, .int .u8 0, .int .u8 0, .int .u8 0, .int .u8 0, .int .u8 0, .int .u8 0, .int .u8 0, .int .u8 0, .int .u8 0, .int .u8 0]

theorem mk55 (w : World) : (Instr.makeSlice 84 (.int .i64 24) (.int .i64 24)).run Try.prog w = .ok (.slice (some ⟨w.heap.size, 0, none⟩) 24 24) (w.alloc (.cells zeros24 5)) := by kernel_rfl

theorem zeros24_at (j : Nat) (h : j < 24) : zeros24[j]? = some (.int .u8 0) := by
  have e : zeros24 = Array.replicate 24 (.int .u8 0) := rfl
  rw [e]
  simp [Array.getElem?_replicate, h]

theorem new_rt (w : World) : RT (((w.alloc (.cells #[.slice (some ⟨w.heap.size + 1, 0, none⟩) 4 4, .int .i64 0, .slice (some ⟨w.heap.size + 1 + 1, 0, none⟩) 24 24, .int .i64 0] 86)).alloc
      (.cells #[.int .i64 (-1), .int .i64 0, .int .i64 (-1), .int .i64 0, .int .i64 (-1), .int .i64 0, .int .i64 (-1), .int .i64 0] 88)).alloc (.cells zeros24 5))
    w.heap.size (w.heap.size + 1) (w.heap.size + 2) L.init := by
  have a1 : ∀ o v, (#[.slice (some ⟨w.heap.size + 1, 0, none⟩) 4 4, .int .i64 0, .slice (some ⟨w.heap.size + 1 + 1, 0, none⟩) 24 24, .int .i64 0] : Array Value)[o]? = some v →
      At (((w.alloc (.cells #[.slice (some ⟨w.heap.size + 1, 0, none⟩) 4 4, .int .i64 0, .slice (some ⟨w.heap.size + 1 + 1, 0, none⟩) 24 24, .int .i64 0] 86)).alloc
      (.cells #[.int .i64 (-1), .int .i64 0, .int .i64 (-1), .int .i64 0, .int .i64 (-1), .int .i64 0, .int .i64 (-1), .int .i64 0] 88)).alloc (.cells zeros24 5)) w.heap.size o v := fun o v h => ((At.new w _ _ h).alloc _).alloc _
  generalize hw1 : w.alloc (.cells #[.slice (some ⟨w.heap.size + 1, 0, none⟩) 4 4, .int .i64 0, .slice (some ⟨w.heap.size + 1 + 1, 0, none⟩) 24 24, .int .i64 0] 86) = w1 at *
  have hs1 : w1.heap.size = w.heap.size + 1 := by rw [← hw1]; simp
  have a2 : ∀ o v, (#[.int .i64 (-1), .int .i64 0, .int .i64 (-1), .int .i64 0, .int .i64 (-1), .int .i64 0, .int .i64 (-1), .int .i64 0] : Array Value)[o]? = some v →
      At ((w1.alloc (.cells #[.int .i64 (-1), .int .i64 0, .int .i64 (-1), .int .i64 0, .int .i64 (-1), .int .i64 0, .int .i64 (-1), .int .i64 0] 88)).alloc (.cells zeros24 5)) (w.heap.size + 1) o v := fun o v h => by
    have := (At.new w1 _ 88 h).alloc (.cells zeros24 5)
    rw [hs1] at this
    exact this
  generalize hw2 : w1.alloc (.cells #[.int .i64 (-1), .int .i64 0, .int .i64 (-1), .int .i64 0, .int .i64 (-1), .int .i64 0, .int .i64 (-1), .int .i64 0] 88) = w2 at *
  have hs2 : w2.heap.size = w.heap.size + 2 := by rw [← hw2]; simp [hs1]
  have a3 : ∀ o v, zeros24[o]? = some v → At (w2.alloc (.cells zeros24 5)) (w.heap.size + 2) o v := fun o v h => by
    have := At.new w2 _ 5 h
    rw [hs2] at this
    exact this
  refine ⟨a1 0 _ rfl, a1 1 _ rfl, a1 2 _ rfl, a1 3 _ rfl, fun k hk => ?_, fun k hk => ?_, ⟨List.replicate 24 0, by simp, by simp [L.init], fun j hj => ?_⟩, by omega, by omega, by omega, L.init_ok⟩
  · rcases L.four hk with h | h | h | h <;> subst h <;> exact a2 _ _ rfl
  · rcases L.four hk with h | h | h | h <;> subst h <;> exact a2 _ _ rfl
  · refine (a3 j _ (zeros24_at j hj)).val ?_
    have : (List.replicate 24 (0 : UInt8)).getD j 0 = 0 := by rw [List.getD_eq_getElem?_getD, List.getElem?_replicate, if_pos hj]; rfl
    rw [this]
    rfl

theorem new_any (w : World) :
    Calls Try.prog 27 #[] w fun e w' => e = .returned (.pointer (some ⟨w.heap.size, 0, none⟩)) ∧ RT w' w.heap.size (w.heap.size + 1) (w.heap.size + 2) L.init ∧ Fr (fun _ => False) w w' := by
  have m1 := mk54
  have m2 := mk55
  go_enter Try.func27, Try.ntmps27
  go_wp2_with fail
  refine wp_loop_rounds 5 ?_
  rw [rounds_succ]
  go_wp2_with fail
  rw [rounds_succ]
  go_wp2_with fail
  rw [rounds_succ]
  go_wp2_with fail
  rw [rounds_succ]
  go_wp2_with fail
  rw [rounds_succ]
  go_wp2_with fail
  go_ret
  refine ⟨rfl, ?_, (((Fr.refl _ _).alloc _).alloc _).alloc _⟩
  exact new_rt w
end Go.Proofs.Qxb6500452a
