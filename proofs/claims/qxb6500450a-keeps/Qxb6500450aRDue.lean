/- The law's Due. -/
import Derived.Test.Qxb6500450aRSmall
namespace Go.Proofs.Qxb6500450a
open Go Go.RowKit
set_option maxRecDepth 100000
set_option maxHeartbeats 1600000
set_option linter.unusedSimpArgs false
set_option linter.unusedVariables false

theorem due_4a (a b c : Int) (os ot : ByteArray) (w : World) (h0 : 12 < os.size) :
    Calls Try.prog 33 #[(⟨4, a, b, c, os, ot⟩ : Stp).val] w fun e w' => e = .returned (.int .i64 1) ∧ Fr (fun _ => False) w w' := by
  simp only [Stp.val]
  have i0 : (12 : Int) < (os.size : Int) := by omega
  clear h0
  go_enter Try.func33, Try.ntmps33
  go_wp2_with fail
  go_ret
  exact ⟨rfl, (Fr.refl _ _).alloc _⟩
theorem due_4b (a b c : Int) (os ot : ByteArray) (w : World) (h0 : ¬ 12 < os.size) (h1 : 12 < ot.size) :
    Calls Try.prog 33 #[(⟨4, a, b, c, os, ot⟩ : Stp).val] w fun e w' => e = .returned (.int .i64 1) ∧ Fr (fun _ => False) w w' := by
  simp only [Stp.val]
  have i0 : ¬ (12 : Int) < (os.size : Int) := by omega
  have i1 : (12 : Int) < (ot.size : Int) := by omega
  clear h0 h1
  go_enter Try.func33, Try.ntmps33
  go_wp2_with fail
  go_ret
  exact ⟨rfl, (Fr.refl _ _).alloc _⟩
theorem due_4c (a b c : Int) (os ot : ByteArray) (w : World) (h0 : ¬ 12 < os.size) (h1 : ¬ 12 < ot.size) (h2 : a < 1) :
    Calls Try.prog 33 #[(⟨4, a, b, c, os, ot⟩ : Stp).val] w fun e w' => e = .returned (.int .i64 7) ∧ Fr (fun _ => False) w w' := by
  simp only [Stp.val]
  have i0 : ¬ (12 : Int) < (os.size : Int) := by omega
  have i1 : ¬ (12 : Int) < (ot.size : Int) := by omega
  clear h0 h1
  go_enter Try.func33, Try.ntmps33
  go_wp2_with fail
  go_ret
  exact ⟨rfl, (Fr.refl _ _).alloc _⟩
theorem due_4d (a b c : Int) (os ot : ByteArray) (w : World) (h0 : ¬ 12 < os.size) (h1 : ¬ 12 < ot.size) (h2 : ¬ a < 1) (h3 : 3 < a) :
    Calls Try.prog 33 #[(⟨4, a, b, c, os, ot⟩ : Stp).val] w fun e w' => e = .returned (.int .i64 7) ∧ Fr (fun _ => False) w w' := by
  simp only [Stp.val]
  have i0 : ¬ (12 : Int) < (os.size : Int) := by omega
  have i1 : ¬ (12 : Int) < (ot.size : Int) := by omega
  clear h0 h1
  go_enter Try.func33, Try.ntmps33
  go_wp2_with fail
  go_ret
  exact ⟨rfl, (Fr.refl _ _).alloc _⟩
theorem due_4e (a b c : Int) (os ot : ByteArray) (w : World) (h0 : ¬ 12 < os.size) (h1 : ¬ 12 < ot.size) (h2 : ¬ a < 1) (h3 : ¬ 3 < a) :
    Calls Try.prog 33 #[(⟨4, a, b, c, os, ot⟩ : Stp).val] w fun e w' => e = .returned (.int .i64 0) ∧ Fr (fun _ => False) w w' := by
  simp only [Stp.val]
  have i0 : ¬ (12 : Int) < (os.size : Int) := by omega
  have i1 : ¬ (12 : Int) < (ot.size : Int) := by omega
  clear h0 h1
  go_enter Try.func33, Try.ntmps33
  go_wp2_with fail
  go_ret
  exact ⟨rfl, (Fr.refl _ _).alloc _⟩
theorem due_5a (a b c : Int) (os ot : ByteArray) (w : World) (h0 : 12 < os.size) :
    Calls Try.prog 33 #[(⟨5, a, b, c, os, ot⟩ : Stp).val] w fun e w' => e = .returned (.int .i64 1) ∧ Fr (fun _ => False) w w' := by
  simp only [Stp.val]
  have i0 : (12 : Int) < (os.size : Int) := by omega
  clear h0
  go_enter Try.func33, Try.ntmps33
  go_wp2_with fail
  go_ret
  exact ⟨rfl, (Fr.refl _ _).alloc _⟩
theorem due_5b (a b c : Int) (os ot : ByteArray) (w : World) (h0 : ¬ 12 < os.size) :
    Calls Try.prog 33 #[(⟨5, a, b, c, os, ot⟩ : Stp).val] w fun e w' => e = .returned (.int .i64 0) ∧ Fr (fun _ => False) w w' := by
  simp only [Stp.val]
  have i0 : ¬ (12 : Int) < (os.size : Int) := by omega
  clear h0
  go_enter Try.func33, Try.ntmps33
  go_wp2_with fail
  go_ret
  exact ⟨rfl, (Fr.refl _ _).alloc _⟩
theorem due_6ap (a b c : Int) (os ot : ByteArray) (w : World) (h0 : 12 < os.size) (h1 : a < 0) :
    Calls Try.prog 33 #[(⟨6, a, b, c, os, ot⟩ : Stp).val] w fun e w' => e = .returned (.int .i64 8) ∧ Fr (fun _ => False) w w' := by
  simp only [Stp.val]
  have i0 : (12 : Int) < (os.size : Int) := by omega
  clear h0
  go_enter Try.func33, Try.ntmps33
  go_wp2_with fail
  go_ret
  exact ⟨rfl, (Fr.refl _ _).alloc _⟩
theorem due_6bp (a b c : Int) (os ot : ByteArray) (w : World) (h0 : 12 < os.size) (h1 : ¬ a < 0) (h2 : 4 < a) :
    Calls Try.prog 33 #[(⟨6, a, b, c, os, ot⟩ : Stp).val] w fun e w' => e = .returned (.int .i64 8) ∧ Fr (fun _ => False) w w' := by
  simp only [Stp.val]
  have i0 : (12 : Int) < (os.size : Int) := by omega
  clear h0
  go_enter Try.func33, Try.ntmps33
  go_wp2_with fail
  go_ret
  exact ⟨rfl, (Fr.refl _ _).alloc _⟩
theorem due_6cp (a b c : Int) (os ot : ByteArray) (w : World) (h0 : 12 < os.size) (h1 : ¬ a < 0) (h2 : ¬ 4 < a) :
    Calls Try.prog 33 #[(⟨6, a, b, c, os, ot⟩ : Stp).val] w fun e w' => e = .returned (.int .i64 0) ∧ Fr (fun _ => False) w w' := by
  simp only [Stp.val]
  have i0 : (12 : Int) < (os.size : Int) := by omega
  clear h0
  go_enter Try.func33, Try.ntmps33
  go_wp2_with fail
  go_ret
  exact ⟨rfl, (Fr.refl _ _).alloc _⟩
theorem due_6an (a b c : Int) (os ot : ByteArray) (w : World) (h0 : ¬ 12 < os.size) (h1 : a < 0) :
    Calls Try.prog 33 #[(⟨6, a, b, c, os, ot⟩ : Stp).val] w fun e w' => e = .returned (.int .i64 8) ∧ Fr (fun _ => False) w w' := by
  simp only [Stp.val]
  have i0 : ¬ (12 : Int) < (os.size : Int) := by omega
  clear h0
  go_enter Try.func33, Try.ntmps33
  go_wp2_with fail
  go_ret
  exact ⟨rfl, (Fr.refl _ _).alloc _⟩
theorem due_6bn (a b c : Int) (os ot : ByteArray) (w : World) (h0 : ¬ 12 < os.size) (h1 : ¬ a < 0) (h2 : 4 < a) :
    Calls Try.prog 33 #[(⟨6, a, b, c, os, ot⟩ : Stp).val] w fun e w' => e = .returned (.int .i64 8) ∧ Fr (fun _ => False) w w' := by
  simp only [Stp.val]
  have i0 : ¬ (12 : Int) < (os.size : Int) := by omega
  clear h0
  go_enter Try.func33, Try.ntmps33
  go_wp2_with fail
  go_ret
  exact ⟨rfl, (Fr.refl _ _).alloc _⟩
theorem due_6cn (a b c : Int) (os ot : ByteArray) (w : World) (h0 : ¬ 12 < os.size) (h1 : ¬ a < 0) (h2 : ¬ 4 < a) :
    Calls Try.prog 33 #[(⟨6, a, b, c, os, ot⟩ : Stp).val] w fun e w' => e = .returned (.int .i64 0) ∧ Fr (fun _ => False) w w' := by
  simp only [Stp.val]
  have i0 : ¬ (12 : Int) < (os.size : Int) := by omega
  clear h0
  go_enter Try.func33, Try.ntmps33
  go_wp2_with fail
  go_ret
  exact ⟨rfl, (Fr.refl _ _).alloc _⟩

theorem due_any (o : Stp) (w : World) (h4 : 4 ≤ o.kind) (h6 : o.kind ≤ 6) :
    Calls Try.prog 33 #[o.val] w fun e w' => e = .returned (.int .i64 (dueE o)) ∧ Fr (fun _ => False) w w' := by
  obtain ⟨kind, a, b, c, os, ot⟩ := o
  simp only at h4 h6
  have hk : kind = 4 ∨ kind = 5 ∨ kind = 6 := by omega
  clear h4 h6
  rcases hk with rfl | rfl | rfl
  · by_cases h0 : 12 < os.size
    · have e : dueE ⟨4, a, b, c, os, ot⟩ = 1 := by simp [dueE, h0]
      rw [e]; exact due_4a a b c os ot w h0
    by_cases h1 : 12 < ot.size
    · have e : dueE ⟨4, a, b, c, os, ot⟩ = 1 := by simp [dueE, h1]
      rw [e]; exact due_4b a b c os ot w h0 h1
    by_cases h2 : a < 1
    · have e : dueE ⟨4, a, b, c, os, ot⟩ = 7 := by simp [dueE, h0, h1, h2]
      rw [e]; exact due_4c a b c os ot w h0 h1 h2
    by_cases h3 : 3 < a
    · have e : dueE ⟨4, a, b, c, os, ot⟩ = 7 := by simp [dueE, h0, h1, h3]
      rw [e]; exact due_4d a b c os ot w h0 h1 h2 h3
    · have e : dueE ⟨4, a, b, c, os, ot⟩ = 0 := by simp [dueE, h0, h1, h2, h3]
      rw [e]; exact due_4e a b c os ot w h0 h1 h2 h3
  · by_cases h0 : 12 < os.size
    · have e : dueE ⟨5, a, b, c, os, ot⟩ = 1 := by simp [dueE, h0]
      rw [e]; exact due_5a a b c os ot w h0
    · have e : dueE ⟨5, a, b, c, os, ot⟩ = 0 := by simp [dueE, h0]
      rw [e]; exact due_5b a b c os ot w h0
  · by_cases h2 : a < 0
    · have e : dueE ⟨6, a, b, c, os, ot⟩ = 8 := by simp [dueE, h2]
      rw [e]
      by_cases h0 : 12 < os.size
      · exact due_6ap a b c os ot w h0 h2
      · exact due_6an a b c os ot w h0 h2
    by_cases h3 : 4 < a
    · have e : dueE ⟨6, a, b, c, os, ot⟩ = 8 := by simp [dueE, h3]
      rw [e]
      by_cases h0 : 12 < os.size
      · exact due_6bp a b c os ot w h0 h2 h3
      · exact due_6bn a b c os ot w h0 h2 h3
    · have e : dueE ⟨6, a, b, c, os, ot⟩ = 0 := by simp [dueE, h2, h3]
      rw [e]
      by_cases h0 : 12 < os.size
      · exact due_6cp a b c os ot w h0 h2 h3
      · exact due_6cn a b c os ot w h0 h2 h3

end Go.Proofs.Qxb6500450a
