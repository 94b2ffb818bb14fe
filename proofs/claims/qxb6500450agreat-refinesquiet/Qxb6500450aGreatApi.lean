/- Itoa: any int in decimal. -/
import Derived.Test.Qxb6500450aGreatProg
import Derived.Test.Qxb6500450aGreatBase
namespace Go.Proofs.Qxb6500450aGreat
open Go Go.RowKit
set_option maxRecDepth 100000
set_option maxHeartbeats 800000
set_option linter.unusedSimpArgs false
set_option linter.unusedVariables false

def itF : Nat → Int → List UInt8
  | 0, n => if n < 0 then [45, dig n.natAbs] else [dig n.natAbs]
  | k + 1, n => if n ≤ -10 then itF k (n.tdiv 10) ++ [dig (n.natAbs % 10)] else if n < 0 then [45, dig n.natAbs] else if n < 10 then [dig n.natAbs] else itF k (n / 10) ++ [dig (n.natAbs % 10)]

def itoa (n : Int) : List UInt8 := itF 19 n

theorem itF_len : ∀ (k : Nat) (n : Int), (itF k n).length ≤ k + 2
  | 0, n => by simp only [itF]; split <;> simp
  | k + 1, n => by
    simp only [itF]
    have h1 := itF_len k (n.tdiv 10)
    have h2 := itF_len k (n / 10)
    split
    · simp; omega
    · split
      · simp
      · split
        · simp
        · simp; omega

theorem conv1 (d : UInt8) (v : Int) (hv : (d.toNat : Int) = v) (W : World) (b : Nat) (h : W.cell? ⟨b, 0, none⟩ = some (.int .u8 v)) :
    (convert 130 9 (.slice (some ⟨b, 0, none⟩) 1 1)).run Tryz.prog W = .ok (.string (bs [d])) W := by
  refine run_convert_bytes_back (P := Tryz.prog) _ 130 9 5 ⟨b, 0, none⟩ 1 [d] Tryz.underlying130 Tryz.underlying5 Tryz.underlying9 ?_
  intro j hj
  have : j = 0 := by simp at hj; exact hj
  subst this
  rw [add_addr, Nat.zero_add, h]
  simp [hv]

theorem conv2 (c d : UInt8) (u v : Int) (hu : (c.toNat : Int) = u) (hv : (d.toNat : Int) = v) (W : World) (b : Nat) (h0 : W.cell? ⟨b, 0, none⟩ = some (.int .u8 u)) (h : W.cell? ⟨b, 1, none⟩ = some (.int .u8 v)) :
    (convert 130 9 (.slice (some ⟨b, 0, none⟩) 2 2)).run Tryz.prog W = .ok (.string (bs [c, d])) W := by
  refine run_convert_bytes_back (P := Tryz.prog) _ 130 9 5 ⟨b, 0, none⟩ 2 [c, d] Tryz.underlying130 Tryz.underlying5 Tryz.underlying9 ?_
  intro j hj
  have : j = 0 ∨ j = 1 := by simp at hj; omega
  rcases this with e | e <;> subst e
  · rw [add_addr, Nat.zero_add, h0]; simp [hu]
  · rw [add_addr, Nat.zero_add, h]; simp [hv]

theorem tdiv_neg (n : Int) (h : n ≤ 0) : n.tdiv 10 = -((-n) / 10) ∧ n.tmod 10 = -((-n) % 10) := by
  obtain ⟨m, hm⟩ := Int.eq_ofNat_of_zero_le (show 0 ≤ -n by omega)
  have e : n = -(m : Int) := by omega
  subst e
  constructor
  · rw [Int.neg_tdiv, Int.tdiv_eq_ediv_of_nonneg (by omega)]; simp
  · rw [Int.neg_tmod, Int.tmod_eq_emod_of_nonneg (by omega)]; simp

theorem itF_small (n : Int) (w : World) (hn' : n.natAbs < 10) :
    Calls Tryz.prog 82 #[.int .i64 n] w fun e w' => e = .returned (.string (bs (if n < 0 then [45, dig n.natAbs] else [dig n.natAbs]))) ∧ Fr (fun _ => False) w w' := by
  by_cases h0 : n < 0
  · have h1 : ¬ n ≤ -10 := by omega
    have hcv := conv2 45 (dig n.natAbs) 45 (48 - n) rfl (by rw [dig_toNat _ hn']; omega)
    have h2 : -10 < n := by omega
    go_enter Tryz.func82, Tryz.ntmps82
    go_wp2_with fail
    go_ret
    exact ⟨rfl, (Fr.refl _ _).alloc _⟩
  · have h1 : 0 ≤ n := by omega
    have h2 : n < 10 := by omega
    have hcv := conv1 (dig n.natAbs) (48 + n) (by rw [dig_toNat _ hn']; omega)
    go_enter Tryz.func82, Tryz.ntmps82
    go_wp2_with fail
    go_ret
    exact ⟨rfl, (Fr.refl _ _).alloc _⟩

theorem itF_any (k : Nat) (hk : k ≤ 30) : ∀ (n : Int) (w : World), n.natAbs < 10 ^ (k + 1) → -9223372036854775808 ≤ n → n ≤ 9223372036854775807 →
    Calls Tryz.prog 82 #[.int .i64 n] w fun e w' => e = .returned (.string (bs (itF k n))) ∧ Fr (fun _ => False) w w' := by
  induction k with
  | zero =>
    intro n w hn lo hi
    simp only [itF]
    exact itF_small n w (by simpa using hn)
  | succ k ih =>
    intro n w hn lo hi
    have IH := hid (ih (by omega))
    clear ih
    by_cases hS : n.natAbs < 10
    · have e : itF (k + 1) n = if n < 0 then [45, dig n.natAbs] else [dig n.natAbs] := by
        simp only [itF]
        rw [if_neg (by omega)]
        split
        · rfl
        · rw [if_pos (by omega)]
      rw [e]
      exact itF_small n w hS
    by_cases hA : n ≤ -10
    · have HE : Hid (itF (k + 1) n = itF k (n.tdiv 10) ++ [dig (n.natAbs % 10)]) := by simp [Hid, itF, hA]
      obtain ⟨e1, e2⟩ := tdiv_neg n (by omega)
      have hq : Hid ((n.tdiv 10).natAbs < 10 ^ (k + 1)) := by
        unfold Hid
        have : 10 ^ (k + 1 + 1) = 10 * 10 ^ (k + 1) := by rw [Nat.pow_succ]; omega
        rw [e1]
        omega
      have q0 : -922337203685477581 ≤ n.tdiv 10 := by omega
      have q1 : n.tdiv 10 ≤ 0 := by omega
      have r0 : -10 < n.tmod 10 := by omega
      have r1 : n.tmod 10 ≤ 0 := by omega
      have hlen := itF_len k (n.tdiv 10)
      have hz : (bs (itF k (n.tdiv 10))).size ≤ 100 := by rw [bs_size]; omega
      have hz2 : (bs [dig (n.natAbs % 10)]).size ≤ 1 := by rw [bs_size]; simp
      have hcv := conv1 (dig (n.natAbs % 10)) (48 - n.tmod 10) (by rw [dig_toNat _ (by omega)]; omega)
      have hw1 : IntKind.i64.wrap (n.tdiv 10) = n.tdiv 10 := Go.IntWalk.i64_in _ (by omega)
      have hw2 : IntKind.i64.wrap (n.tmod 10) = n.tmod 10 := Go.IntWalk.i64_in _ (by omega)
      have hw3 : IntKind.i64.wrap (48 - n.tmod 10) = 48 - n.tmod 10 := Go.IntWalk.i64_in _ (by omega)
      have hw4 : IntKind.u8.wrap (48 - n.tmod 10) = 48 - n.tmod 10 := Go.IntWalk.u8_in _ (by omega)
      clear hn hlen e1 e2
      go_enter Tryz.func82, Tryz.ntmps82
      go_wp2_with fail
      go_region_with (go_at_call 82; refine (IH.out _ _ hq.out (by omega) (by omega)).mono ?_; rintro e w2 ⟨rfl, hf2⟩; first | (have p := ((At.new w #[.int .u8 (48 - n.tmod 10)] 5 (o := 0) rfl).drew.fr hf2 (fun f => f)).c; have HF := hid (((Fr.refl (fun _ => False) w).alloc (.cells #[.int .u8 (48 - n.tmod 10)] 5)).drew.trans hf2); have hz9 := Nat.lt_of_lt_of_le (Nat.lt_succ_self w.heap.size) (by simpa using hf2.size : w.heap.size + 1 ≤ w2.heap.size); clear hf2) | (have HF := hid ((Fr.refl (fun _ => False) w).drew.trans hf2); clear hf2))
      all_goals go_wp2_with fail
      all_goals go_ret
      all_goals rw [HE.out, ← bs_append]
      all_goals first | exact ⟨rfl, HF.out.alloc _⟩ | exact ⟨rfl, HF.out⟩
    · have HE : Hid (itF (k + 1) n = itF k (n / 10) ++ [dig (n.natAbs % 10)]) := by simp only [Hid, itF]; rw [if_neg (by omega), if_neg (by omega), if_neg (by omega)]
      have hd1 : n.tdiv 10 = n / 10 := Int.tdiv_eq_ediv_of_nonneg (by omega)
      have hd2 : n.tmod 10 = n % 10 := Int.tmod_eq_emod_of_nonneg (by omega)
      have hA1 : ¬ n ≤ -10 := by omega
      have hA2 : ¬ n < 0 := by omega
      have hA3 : ¬ n < 10 := by omega
      have hq : Hid ((n / 10).natAbs < 10 ^ (k + 1)) := by
        unfold Hid
        have : 10 ^ (k + 1 + 1) = 10 * 10 ^ (k + 1) := by rw [Nat.pow_succ]; omega
        omega
      have q0 : 0 ≤ n / 10 := by omega
      have q1 : n / 10 ≤ 922337203685477581 := by omega
      have r0 : 0 ≤ n % 10 := by omega
      have r1 : n % 10 < 10 := by omega
      have hlen := itF_len k (n / 10)
      have hz : (bs (itF k (n / 10))).size ≤ 100 := by rw [bs_size]; omega
      have hz2 : (bs [dig (n.natAbs % 10)]).size ≤ 1 := by rw [bs_size]; simp
      have hcv := conv1 (dig (n.natAbs % 10)) (48 + n % 10) (by rw [dig_toNat _ (by omega)]; omega)
      have hw1 : IntKind.i64.wrap (n / 10) = n / 10 := Go.IntWalk.i64_in _ (by omega)
      have hw2 : IntKind.i64.wrap (n % 10) = n % 10 := Go.IntWalk.i64_in _ (by omega)
      have hw3 : IntKind.i64.wrap (48 + n % 10) = 48 + n % 10 := Go.IntWalk.i64_in _ (by omega)
      have hw4 : IntKind.u8.wrap (48 + n % 10) = 48 + n % 10 := Go.IntWalk.u8_in _ (by omega)
      clear hn hlen
      go_enter Tryz.func82, Tryz.ntmps82
      go_wp2_with fail
      go_region_with (go_at_call 82; refine (IH.out _ _ hq.out (by omega) (by omega)).mono ?_; rintro e w2 ⟨rfl, hf2⟩; first | (have p := ((At.new w #[.int .u8 (48 + n % 10)] 5 (o := 0) rfl).drew.fr hf2 (fun f => f)).c; have HF := hid (((Fr.refl (fun _ => False) w).alloc (.cells #[.int .u8 (48 + n % 10)] 5)).drew.trans hf2); have hz9 := Nat.lt_of_lt_of_le (Nat.lt_succ_self w.heap.size) (by simpa using hf2.size : w.heap.size + 1 ≤ w2.heap.size); clear hf2) | (have HF := hid ((Fr.refl (fun _ => False) w).drew.trans hf2); clear hf2))
      all_goals go_wp2_with fail
      all_goals go_ret
      all_goals rw [HE.out, ← bs_append]
      all_goals first | exact ⟨rfl, HF.out.alloc _⟩ | exact ⟨rfl, HF.out⟩

/-- Itoa: every int. -/
theorem itoa_any (n : Int) (w : World) (lo : -9223372036854775808 ≤ n) (hi : n ≤ 9223372036854775807) :
    Calls Tryz.prog 82 #[.int .i64 n] w fun e w' => e = .returned (.string (bs (itoa n))) ∧ Fr (fun _ => False) w w' :=
  itF_any 19 (by omega) n w (by omega) lo hi

theorem itoa_len (n : Int) : (itoa n).length ≤ 21 := itF_len 19 n

end Go.Proofs.Qxb6500450aGreat
