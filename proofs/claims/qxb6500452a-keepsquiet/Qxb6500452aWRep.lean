/- The model of the ledger: what it holds; New, Locks, check, pay, Audit. -/
import Derived.Test.Qxb6500452aVCen
namespace Go.Proofs.Qxb6500452a
open Go Go.RowKit
set_option maxRecDepth 100000
set_option maxHeartbeats 1600000
set_option linter.unusedSimpArgs false
set_option linter.unusedVariables false

structure ML (w : World) (X M : Nat) (s : Led) : Prop where
  m0 : At w X 0 (.pointer (some ⟨M, 0, none⟩))
  mb : ∀ k, k < 4 → At w X (1 + k) (.int .i64 (s.bal k))
  mu : At w X 5 (.int .i64 (s.un : Int))
  mt : MT w M s.lk
  ne : X ≠ M
  bl : ∀ k, k < 4 → 0 ≤ s.bal k ∧ s.bal k ≤ 250
  ul : s.un ≤ 99
  tot : sum4 s.bal = 400

def SM (X M : Nat) : Nat → Prop := fun i => i = X ∨ i = M

theorem ML.fr {w w' : World} {X M : Nat} {s : Led} (h : ML w X M s) {S : Nat → Prop} (hf : Fr S w w') (hn : ∀ i, SM X M i → ¬ S i) : ML w' X M s :=
  ⟨h.m0.fr hf (hn _ (.inl rfl)), fun k hk => (h.mb k hk).fr hf (hn _ (.inl rfl)), h.mu.fr hf (hn _ (.inl rfl)), h.mt.fr hf (hn _ (.inr rfl)), h.ne, h.bl, h.ul, h.tot⟩
theorem ML.lock {w w' : World} {X M : Nat} {s : Led} (h : ML w X M s) {lk : L.St} (hm : MT w' M lk) (hf : Fr (S1 M) w w') : ML w' X M ⟨lk, s.bal, s.un⟩ :=
  ⟨h.m0.fr hf h.ne, fun k hk => (h.mb k hk).fr hf h.ne, h.mu.fr hf h.ne, hm, h.ne, h.bl, h.ul, h.tot⟩
theorem ML.lt {w : World} {X M : Nat} {s : Led} (h : ML w X M s) : ∀ i, SM X M i → i < w.heap.size := by
  rintro i (rfl | rfl)
  · exact h.m0.lt
  · exact h.mt.lt
theorem ML.clr {w : World} {X M : Nat} {s : Led} (h : ML w X M s) : 0 ≤ s.un := by omega
theorem SM_of1 {X M i : Nat} (h : S1 M i) : SM X M i := .inr h

structure MN (w0 w : World) (X M : Nat) (k : Nat) : Prop where
  m0 : At w X 0 (.pointer (some ⟨M, 0, none⟩))
  mb : ∀ j, j < 4 → At w X (1 + j) (.int .i64 (balTo k j))
  mu : At w X 5 (.int .i64 0)
  mt : MT w M L.init
  lt : w0.heap.size ≤ M ∧ M < X
  fr : Fr (fun _ => False) w0 w

theorem mlnew_any (w : World) :
    Calls Try.prog 67 #[] w fun e w' => ∃ X M, w.heap.size ≤ M ∧ M < X ∧ e = .returned (.pointer (some ⟨X, 0, none⟩)) ∧ ML w' X M (led0 L.init) ∧ Fr (fun _ => False) w w' := by
  go_enter Try.func67, Try.ntmps67
  go_wp2_with fail
  refine (mnew_any w).mono ?_
  rintro e w1 ⟨rfl, m1, f1⟩
  have MN1 : Hid (MN w (w1.alloc (.cells #[.pointer (some ⟨w.heap.size, 0, none⟩), .int .i64 0, .int .i64 0, .int .i64 0, .int .i64 0, .int .i64 0] 111)) w1.heap.size w.heap.size 0) := by
    refine ⟨At.new w1 _ _ (o := 0) rfl, fun j hj => ?_, At.new w1 _ _ (o := 5) rfl, m1.alloc _, ⟨Nat.le_refl _, m1.lt⟩, f1.alloc _⟩
    have : j = 0 ∨ j = 1 ∨ j = 2 ∨ j = 3 := by omega
    rcases this with rfl | rfl | rfl | rfl
    · exact At.new w1 _ _ (o := 1) rfl
    · exact At.new w1 _ _ (o := 2) rfl
    · exact At.new w1 _ _ (o := 3) rfl
    · exact At.new w1 _ _ (o := 4) rfl
  clear m1 f1
  go_wp2_with fail
  generalize w1.heap.size = X at *
  generalize w.heap.size = M at *
  generalize (w1.alloc (.cells #[.pointer (some ⟨M, 0, none⟩), .int .i64 0, .int .i64 0, .int .i64 0, .int .i64 0, .int .i64 0] 111)) = w2 at *
  go_loopw [2] (fun i wr => ∃ k : Nat, k ≤ 4 ∧ i = .int .i64 k ∧ MN w wr X M k) (fun i _ => 4 - (intOf i).toNat)
  case atStart => exact ⟨0, by omega, rfl, MN1.out⟩
  case round =>
    clear MN1
    obtain ⟨k, hk, rfl, hm⟩ := hrel
    have HM := hid hm
    have hk0 : (0 : Int) ≤ (k : Int) := by omega
    by_cases hlt : k < 4
    · have hk4 : (k : Int) < 4 := by omega
      have c := (hm.mb k hlt).c
      have f := (hm.mb k hlt).f
      clear hm
      go_wp2_with fail
      have hm := HM.out
      refine ⟨⟨k + 1, by omega, by go_num, ⟨hm.m0.other (by omega) _, fun j hj => ?_, hm.mu.other (by omega) _, hm.mt.fr ((Fr.refl (fun i => i = X) wr).setCell (p := ⟨X, 1 + k, none⟩) (fun _ => rfl) _) (by have := hm.lt; omega), hm.lt, hm.fr.setN (by have := hm.lt; omega) _ _⟩⟩, by simp [intOf]; omega⟩
      by_cases e : j = k
      · subst e
        exact ((hm.mb j hj).same _).val (by simp [balTo])
      · refine ((hm.mb j hj).other (fun _ h => e (by omega)) _).val ?_
        have : (j < k + 1) = (j < k) := by simp; omega
        simp [balTo, this]
    · have hk4 : ¬ (k : Int) < 4 := by omega
      obtain rfl : k = 4 := by omega
      clear hm
      go_wp2_with fail
      go_ret
      have hm := HM.out
      refine ⟨X, M, hm.lt.1, hm.lt.2, rfl, ⟨hm.m0, fun j hj => (hm.mb j hj).val (by simp [balTo, hj, led0]), hm.mu, hm.mt, by have := hm.lt; omega, fun k hk => by simp [led0], by simp [led0], by simp [led0, sum4]⟩, hm.fr⟩

theorem mcheck_any (f t a : Int) (w : World) : Calls Try.prog 110 #[.agg #[.int .i64 f, .int .i64 t, .int .i64 a]] w fun e w' => e = .returned (.int .i64 (chk f t a)) ∧ Fr (fun _ => False) w w' := by
  have arm : ∀ k (W : World), Calls Try.prog 73 #[.int .i64 k] W fun e w' => e = .returned (.bool (goodB k)) ∧ w' = W := fun k W => good_any k W
  have fa : ∀ c, Fr (fun _ => False) w (w.alloc c) := fun c => (Fr.refl _ _).alloc _
  clear arm
  rcases hf : goodB f with _ | _
  · have HE : Hid (chk f t a = 2) := by simp [Hid, chk, hf]
    rcases ht : goodB t with _ | _
    all_goals
      go_enter Try.func110, Try.ntmps110
      go_wp2_with (first
        | (go_at_call 73; refine (good_any _ _).mono ?_; rintro e w1 ⟨rfl, hw1⟩; obtain rfl := hw1.symm; first | rw [hf] | rw [ht])
        | fail)
      go_ret
      rw [HE.out]
      exact ⟨rfl, fa _⟩
  rcases ht : goodB t with _ | _
  · have HE : Hid (chk f t a = 2) := by simp [Hid, chk, ht]
    go_enter Try.func110, Try.ntmps110
    go_wp2_with (first
      | (go_at_call 73; refine (good_any _ _).mono ?_; rintro e w1 ⟨rfl, hw1⟩; obtain rfl := hw1.symm; first | rw [hf] | rw [ht])
      | fail)
    all_goals
      go_ret
      rw [HE.out]
      exact ⟨rfl, fa _⟩
  by_cases h1 : a < 1
  · have HE : Hid (chk f t a = 2) := by unfold Hid chk; rw [if_neg (by omega)]
    go_enter Try.func110, Try.ntmps110
    go_wp2_with (first
      | (go_at_call 73; refine (good_any _ _).mono ?_; rintro e w1 ⟨rfl, hw1⟩; obtain rfl := hw1.symm; first | rw [hf] | rw [ht])
      | fail)
    all_goals
      go_ret
      rw [HE.out]
      exact ⟨rfl, fa _⟩
  by_cases h2 : 999 < a
  · have HE : Hid (chk f t a = 2) := by unfold Hid chk; rw [if_neg (by omega)]
    go_enter Try.func110, Try.ntmps110
    go_wp2_with (first
      | (go_at_call 73; refine (good_any _ _).mono ?_; rintro e w1 ⟨rfl, hw1⟩; obtain rfl := hw1.symm; first | rw [hf] | rw [ht])
      | fail)
    all_goals
      go_ret
      rw [HE.out]
      exact ⟨rfl, fa _⟩
  by_cases h3 : f = t
  · subst h3
    have HE : Hid (chk f f a = 3) := by unfold Hid chk; rw [if_pos ⟨hf, ht, by omega, by omega⟩, if_pos rfl]
    go_enter Try.func110, Try.ntmps110
    go_wp2_with (first
      | (go_at_call 73; refine (good_any _ _).mono ?_; rintro e w1 ⟨rfl, hw1⟩; obtain rfl := hw1.symm; rw [hf])
      | fail)
    all_goals
      go_ret
      rw [HE.out]
      exact ⟨rfl, fa _⟩
  · have HE : Hid (chk f t a = 0) := by unfold Hid chk; rw [if_pos ⟨hf, ht, by omega, by omega⟩, if_neg h3]
    have h3b : (f == t) = false := by simp [h3]
    clear h3
    go_enter Try.func110, Try.ntmps110
    go_wp2_with (first
      | (go_at_call 73; refine (good_any _ _).mono ?_; rintro e w1 ⟨rfl, hw1⟩; obtain rfl := hw1.symm; first | rw [hf] | rw [ht])
      | fail)
    all_goals
      go_ret
      rw [HE.out]
      exact ⟨rfl, fa _⟩


def payM (bal : Nat → Int) (f t : Nat) (a : Int) : Nat → Int := if payE bal f t a = 0 then payB bal f t a else bal

theorem mpay_any {w : World} {B off : Nat} {bal : Nat → Int} (hb : ∀ k, k < 4 → At w B (off + k) (.int .i64 (bal k))) {f t : Nat} (hf : f < 4) (ht : t < 4) (hft : f ≠ t) {a : Int} (a1 : 1 ≤ a) (a2 : a ≤ 999) (hbl : ∀ k, k < 4 → 0 ≤ bal k ∧ bal k ≤ 250) :
    Calls Try.prog 112 #[.pointer (some ⟨B, off, none⟩), .agg #[.int .i64 (f : Int), .int .i64 (t : Int), .int .i64 a]] w fun e w' => e = .returned (.int .i64 (payE bal f t a)) ∧
      (∀ k, k < 4 → At w' B (off + k) (.int .i64 (payM bal f t a k))) ∧ (∀ o v, (o < off ∨ off + 4 ≤ o) → At w B o v → At w' B o v) ∧ Fr (fun i => i = B) w w' := by
  have bf := hb f hf
  have bt := hb t ht
  have HB := hid hb
  have hB : B < w.heap.size := bf.lt
  have cf := bf.c
  have ct := bt.c
  have xf := bf.f
  have xt := bt.f
  have h1 := hbl f hf
  have h2 := hbl t ht
  have hf0 : (0 : Int) ≤ (f : Int) := by omega
  have hf4 : (f : Int) < 4 := by omega
  have ht0 : (0 : Int) ≤ (t : Int) := by omega
  have ht4 : (t : Int) < 4 := by omega
  have FA : ∀ c, Hid (Fr (fun i => i = B) w (w.alloc c)) := fun c => (Fr.refl _ _).alloc _
  have AA : ∀ c k, k < 4 → Hid (At (w.alloc c) B (off + k) (.int .i64 (bal k))) := fun c k hk => (hb k hk).alloc _
  clear bf bt hb hbl
  by_cases c1 : bal f < a
  · have HE : Hid (payE bal f t a = 6 ∧ payM bal f t a = bal) := by simp [Hid, payE, payM, c1]
    rw [HE.out.1, HE.out.2]
    clear HE
    go_enter Try.func112, Try.ntmps112
    go_upto_region 1 with fail
    go_region
    go_wp2_with fail
    go_ret
    exact ⟨rfl, fun k hk => (((HB.out k hk).alloc _).drew), fun o v _ h => (h.alloc _).drew, ((Fr.refl _ _).alloc _).drew⟩
  by_cases c2 : 250 < bal t + a
  · have HE : Hid (payE bal f t a = 7 ∧ payM bal f t a = bal) := by simp [Hid, payE, payM, c1, c2]
    rw [HE.out.1, HE.out.2]
    clear HE
    go_enter Try.func112, Try.ntmps112
    go_upto_region 1 with fail
    go_region
    go_upto_region 3 with fail
    go_region
    go_wp2_with fail
    go_ret
    exact ⟨rfl, fun k hk => (((HB.out k hk).alloc _).drew).drew, fun o v _ h => (h.alloc _).drew.drew, ((Fr.refl _ _).alloc _).drew.drew⟩
  · have HE : Hid (payE bal f t a = 0 ∧ payM bal f t a = updI (updI bal f (bal f - a)) t (bal t + a)) := by simp [Hid, payE, payM, payB, c1, c2]
    rw [HE.out.1, HE.out.2]
    clear HE
    go_enter Try.func112, Try.ntmps112
    go_upto_region 1 with fail
    go_region
    go_upto_region 3 with fail
    go_region
    go_upto_region 5 with fail
    go_region
    go_upto_region 6 with fail
    go_region
    go_wp2_with fail
    go_ret
    refine ⟨rfl, fun k hk => ?_, fun o v ho h => ((((h.other (by omega) _).other (by omega) _).alloc _).drew.drew.drew.drew), ((((Fr.refl (fun i => i = B) w).setCell (p := ⟨B, off + f, none⟩) (fun _ => rfl) _).setCell (p := ⟨B, off + t, none⟩) (fun _ => rfl) _).alloc _).drew.drew.drew.drew⟩
    refine At.drew (At.drew (At.drew (At.drew (At.alloc ?_ _))))
    have hk' := HB.out k hk
    by_cases e1 : k = t
    · subst e1
      exact ((hk'.other (by omega) _).same _).val (by simp [updI])
    · by_cases e2 : k = f
      · subst e2
        exact ((hk'.same _).other (by omega) _).val (by simp [updI, e1])
      · exact ((hk'.other (by omega) _).other (by omega) _).val (by simp [updI, e1, e2])

end Go.Proofs.Qxb6500452a
