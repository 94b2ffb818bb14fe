/- The gate: name, shape. -/
import Derived.Test.Qxb6500452aGCmd
import Derived.Test.Qxb6500452aVCen
import Derived.Test.Qxb6500452aWBatch
import Derived.Lib.BoundsPanic
namespace Go.Proofs.Qxb6500452a
open Go Go.RowKit
set_option maxRecDepth 100000
set_option maxHeartbeats 1600000
set_option linter.unusedSimpArgs false
set_option linter.unusedVariables false

def nameL (k : Nat) : List UInt8 := if k = 0 then [97, 110, 110] else if k = 1 then [98, 111, 98] else if k = 2 then [99, 121, 100] else [100, 101, 101]
theorem name_ok {k : Nat} (hk : k < 4) (w : World) : Calls Try.prog 59 #[.int .i64 (k : Int)] w fun e w' => e = .returned (.string (L.bs (nameL k))) ∧ Fr (fun _ => False) w w' := by
  have : k = 0 ∨ k = 1 ∨ k = 2 ∨ k = 3 := by omega
  rcases this with rfl | rfl | rfl | rfl
  all_goals
    go_enter Try.func59, Try.ntmps59
    go_wp2_with fail
    go_ret
    exact ⟨rfl, (Fr.refl _ _).alloc _⟩
/-- A panic of the runtime's own. -/
def OutP (e : Ending) : Prop := ∃ (t : TypeId) (x : Value) (older : List PanicEntry), (t = 8 ∨ t = 10) ∧ older.dropWhile (!·.goexit) = [] ∧ e = .panicked ({ v := .iface t x, recovered := false } :: older)
theorem name_out {k : Int} (h0 : 0 ≤ k) (hk : 4 ≤ k) (h9 : k ≤ 9) (w : World) : Calls Try.prog 59 #[.int .i64 k] w fun e w' => OutP e ∧ Fr (fun _ => False) w w' := by
  have h4 : ¬ k < 4 := by omega
  have hbp := fun W => Go.Lib.run_boundsPanic_index (α := Value) Try.prog k 4 W h0 (by omega)
  go_enter Try.func59, Try.ntmps59
  go_wp2_with fail
  exact ⟨rfl, ⟨8, _, [], .inl rfl, rfl, rfl⟩, ((Fr.refl _ _).alloc _).drew⟩

/-- What the gate makes of the ledger's answer. -/
def shA (verb : UInt8) (n e : Int) : ByteArray := if verb = 88 ∧ e ≠ 0 then ⟨#[35]⟩ ++ Ia.bs (Ia.itoa n) else if e ≠ 0 then ⟨#[]⟩ else Ia.bs (Ia.itoa n)
theorem shape_any (verb : UInt8) {n e : Int} (hn0 : -1000 ≤ n) (hn1 : n ≤ 1000) (w : World) : Calls Try.prog 63 #[.int .u8 (verb.toNat : Int), .int .i64 n, .int .i64 e] w fun x w' => x = .returned (.tuple #[.string (shA verb n e), .int .i64 e]) ∧ Fr (fun _ => False) w w' := by
  have hz : (Ia.bs (Ia.itoa n)).size ≤ 21 := by rw [Ia.bs_size]; exact Ia.itoa_len _
  by_cases hv : verb = 88
  · have hvb : ((verb.toNat : Int) == 88) = true := (u8_eq (n := 88) (by omega)).2 hv
    by_cases he : e = 0
    · subst he
      have hS : shA verb n 0 = Ia.bs (Ia.itoa n) := by simp [shA]
      rw [hS]
      clear hS hv
      go_enter Try.func63, Try.ntmps63
      go_wp2_with (first | (go_at_call 32; refine (Ia.itoa_any _ _ (by omega) (by omega)).mono ?_; rintro e w2 ⟨rfl, hf2⟩) | fail)
      go_ret2
      exact ⟨rfl, hf2⟩
    · have heb : (e != 0) = true := by simp [he]
      have hS : shA verb n e = ⟨#[35]⟩ ++ Ia.bs (Ia.itoa n) := by simp [shA, hv, he]
      rw [hS]
      clear hS hv he
      go_enter Try.func63, Try.ntmps63
      go_wp2_with (first | (go_at_call 32; refine (Ia.itoa_any _ _ (by omega) (by omega)).mono ?_; rintro e w2 ⟨rfl, hf2⟩) | fail)
      go_ret2
      exact ⟨rfl, hf2⟩
  · have hvb : ((verb.toNat : Int) == 88) = false := by rcases h : ((verb.toNat : Int) == 88) with _ | _; rfl; exact absurd ((u8_eq (n := 88) (by omega)).1 h) hv
    by_cases he : e = 0
    · subst he
      have hS : shA verb n 0 = Ia.bs (Ia.itoa n) := by simp [shA]
      rw [hS]
      clear hS hv
      go_enter Try.func63, Try.ntmps63
      go_wp2_with (first | (go_at_call 32; refine (Ia.itoa_any _ _ (by omega) (by omega)).mono ?_; rintro e w2 ⟨rfl, hf2⟩) | fail)
      go_ret2
      exact ⟨rfl, hf2⟩
    · have heb : (e != 0) = true := by simp [he]
      have hS : shA verb n e = ⟨#[]⟩ := by simp [shA, hv, he]
      rw [hS]
      clear hS hv he
      go_enter Try.func63, Try.ntmps63
      go_wp2_with fail
      go_ret2
      exact ⟨rfl, Fr.refl _ _⟩

end Go.Proofs.Qxb6500452a
