/- tx.commit, tx.rollback, begin, check, Bump. -/
import Derived.Test.Qxb6500452aVPay
namespace Go.Proofs.Qxb6500452a
open Go Go.RowKit
set_option maxRecDepth 100000
set_option maxHeartbeats 1600000
set_option linter.unusedSimpArgs false
set_option linter.unusedVariables false

def bump (n : Nat) : Nat := if 99 ≤ n then 99 else n + 1
theorem bump_any (n : Nat) (w : World) : Calls Try.prog 51 #[.int .i64 (n : Int)] w fun e w' => e = .returned (.int .i64 (bump n : Int)) ∧ w' = w := by
  by_cases h : (99 : Int) ≤ (n : Int)
  · have HE : Hid (bump n = 99) := by unfold Hid bump; rw [if_pos (by omega)]
    go_enter Try.func51, Try.ntmps51
    go_wp2_with fail
    go_ret
    rw [HE.out]
    exact ⟨rfl, rfl⟩
  · have HE : Hid (bump n = n + 1) := by unfold Hid bump; rw [if_neg (by omega)]
    have h0 : (0 : Int) ≤ (n : Int) := by omega
    go_enter Try.func51, Try.ntmps51
    go_wp2_with fail
    go_ret
    rw [HE.out]
    exact ⟨rfl, rfl⟩

/-- The journal played backwards. -/
def undo (bal : Nat → Int) (jr : List (Nat × Int)) : Nat → Int := jr.foldr (fun e acc => updI acc e.1 e.2) bal

theorem LV.setB {w : World} {b : LB} {bal : Nat → Int} {jr : List (Nat × Int)} {un : Nat} (h : LV w b bal jr un) {k : Nat} (v : Int) : LV (w.setCell ⟨b.B, k, none⟩ (.int .i64 v)) b (updI bal k v) jr un := by
  have o := h.ok
  refine ⟨h.d0.other (fun e _ => o.db e.symm) _, h.d1.other (fun e _ => o.db e.symm) _, h.d2.other (fun e _ => o.db e.symm) _, h.d3.other (fun e _ => o.db e.symm) _, fun j hj => ?_, fun i hi => ⟨(h.jg i hi).1.other (fun e _ => o.bg e) _, (h.jg i hi).2.other (fun e _ => o.bg e) _⟩, fun i hi => (h.has i hi).set _ _ _, o⟩
  by_cases e : j = k
  · subst e
    exact ((h.bl j hj).same _).val (by simp [updI])
  · exact ((h.bl j hj).other (fun _ e' => e e'.symm) _).val (by simp [updI, e])

theorem LV.cut {w : World} {b : LB} {bal : Nat → Int} {jr : List (Nat × Int)} {un : Nat} (h : LV w b bal jr un) : LV (w.setCell ⟨b.D, 2, none⟩ (.slice (some ⟨b.G, 0, none⟩) 0 6)) b bal [] un := by
  have o := h.ok
  exact ⟨h.d0.other (by omega) _, h.d1.other (by omega) _, h.d2.same _, h.d3.other (by omega) _, fun j hj => (h.bl j hj).other (fun e _ => o.db e) _, fun i hi => by simp at hi, fun i hi => (h.has i hi).set _ _ _, o⟩

theorem LV.setU {w : World} {b : LB} {bal : Nat → Int} {jr : List (Nat × Int)} {un : Nat} (h : LV w b bal jr un) (un' : Nat) : LV (w.setCell ⟨b.D, 3, none⟩ (.int .i64 (un' : Int))) b bal jr un' := by
  have o := h.ok
  exact ⟨h.d0.other (by omega) _, h.d1.other (by omega) _, h.d2.other (by omega) _, h.d3.same _, fun j hj => (h.bl j hj).other (fun e _ => o.db e) _, fun i hi => ⟨(h.jg i hi).1.other (fun e _ => o.dg e) _, (h.jg i hi).2.other (fun e _ => o.dg e) _⟩, fun i hi => (h.has i hi).set _ _ _, o⟩

theorem begin_any (bD : Nat) (w : World) : Calls Try.prog 83 #[.pointer (some ⟨bD, 0, none⟩)] w fun e w' => e = .returned (.pointer (some ⟨w.heap.size, 0, none⟩)) ∧ At w' w.heap.size 0 (.pointer (some ⟨bD, 0, none⟩)) ∧ Fr (fun _ => False) w w' := by
  go_enter Try.func83, Try.ntmps83
  go_wp2_with fail
  go_ret
  exact ⟨rfl, At.new w _ _ rfl, (Fr.refl _ _).alloc _⟩

theorem commit_any {w : World} {b : LB} {bal : Nat → Int} {jr : List (Nat × Int)} {un pT : Nat} (h : LV w b bal jr un) (ht : At w pT 0 (.pointer (some ⟨b.D, 0, none⟩))) :
    Calls Try.prog 86 #[.pointer (some ⟨pT, 0, none⟩)] w fun e w' => e = .returned (.tuple #[]) ∧ LV w' b bal [] un ∧ Fr (S3L b) w w' := by
  have H := hid h
  have c0 := ht.c
  have d2 := h.d2.c
  have x2 := h.d2.f
  generalize jr.length = n at d2
  clear h ht
  go_enter Try.func86, Try.ntmps86
  go_wp2_with fail
  go_region
  go_wp2_with fail
  go_end0
  exact ⟨rfl, H.out.cut.fr ((Fr.refl (fun _ => False) _).drew) (fun _ _ h => h), ((Fr.refl (S3L b) w).setCell (p := ⟨b.D, 2, none⟩) (fun _ => .inl rfl) _).drew⟩

theorem rollback_any {w : World} {b : LB} {bal : Nat → Int} {jr : List (Nat × Int)} {un pT : Nat} (h : LV w b bal jr un) (ht : At w pT 0 (.pointer (some ⟨b.D, 0, none⟩))) (hk : ∀ e ∈ jr, e.1 < 4) (hl : jr.length ≤ 6) :
    Calls Try.prog 85 #[.pointer (some ⟨pT, 0, none⟩)] w fun e w' => e = .returned (.tuple #[]) ∧ LV w' b (undo bal jr) [] (if jr = [] then un else bump un) ∧ Fr (S3L b) w w' := by
  have H := hid h
  have c0 := ht.c
  have d2 := h.d2.c
  have HK := hid hk
  by_cases hj : jr = []
  · subst hj
    simp only [List.length_nil] at d2
    have HX : Hid (undo bal [] = bal) := rfl
    clear h ht hk hl
    go_enter Try.func85, Try.ntmps85
    go_wp2_with fail
    refine bodyPost_ret (v := .tuple #[]) (by simp [results, Try.results85, go_sem]) rfl ?_
    rw [HX.out]
    exact ⟨rfl, H.out, Fr.refl _ _⟩
  · have hn0 : jr.length ≠ 0 := fun e => hj (List.eq_nil_of_length_eq_zero e)
    rw [if_neg hj]
    obtain ⟨n, hn⟩ : ∃ n, n = jr.length := ⟨_, rfl⟩
    rw [← hn] at d2 hl hn0
    have HN := hid hn
    have hnb : ((n : Int) == 0) = false := by simp; omega
    have hn6 : (n : Int) ≤ 6 := by omega
    have hn1 : (1 : Int) ≤ (n : Int) := by omega
    clear h ht hk hj hn
    go_enter Try.func85, Try.ntmps85
    go_wp2_with fail
    go_loopw [3] (fun i wr => ∃ m : Nat, m ≤ n ∧ i = .int .i64 ((m : Int) - 1) ∧ LV wr b (undo bal (jr.drop m)) jr un ∧ Fr (S3L b) w wr) (fun i _ => (intOf i + 1).toNat)
    case atStart => exact ⟨n, by omega, rfl, by rw [List.drop_of_length_le (by rw [HN.out]; exact Nat.le_refl _)]; exact H.out, Fr.refl _ _⟩
    case round =>
      obtain ⟨m, hm, rfl, lv, fr⟩ := hrel
      have LVH := hid lv
      have FR := hid fr
      have d1 := lv.d1.c
      have d2 := lv.d2.c
      have x2 := lv.d2.f
      have d3 := lv.d3.c
      have x3 := lv.d3.f
      rw [← HN.out] at d2
      rcases Nat.eq_zero_or_pos m with rfl | hpos
      · clear lv fr
        go_wp2_with (first
          | (go_at_call 51; refine (bump_any un _).mono ?_; rintro e w2 ⟨rfl, hw2⟩; obtain rfl := hw2.symm)
          | fail)
        go_end0
        exact ⟨rfl, LVH.out.cut.setU _, (FR.out.setCell (p := ⟨b.D, 2, none⟩) (fun _ => .inl rfl) _).setCell (p := ⟨b.D, 3, none⟩) (fun _ => .inl rfl) _⟩
      · obtain ⟨k, rfl⟩ : ∃ k, m = k + 1 := ⟨m - 1, by omega⟩
        have ek : (((k + 1 : Nat) : Int) - 1) = (k : Int) := by omega
        rw [ek]
        have hkl : k < jr.length := by have := HN.out; omega
        obtain ⟨j0, j1⟩ := lv.jg k hkl
        have g0 := j0.c
        have g1 := j1.c
        have HD : Hid (undo bal (jr.drop k) = updI (undo bal (jr.drop (k + 1))) jr[k].1 jr[k].2) := by
          unfold Hid undo
          rw [List.drop_eq_getElem_cons hkl]
          rfl
        have hq := HK.out jr[k] (List.getElem_mem _)
        generalize jr[k] = e at *
        obtain ⟨q, v⟩ := e
        simp only at g0 g1 hq
        have bq := lv.bl q hq
        have b0 := bq.c
        have y0 := bq.f
        have hq0 : (0 : Int) ≤ (q : Int) := by omega
        have hq4 : (q : Int) < 4 := by omega
        have hk0 : (0 : Int) ≤ (k : Int) := by omega
        have hkn : (k : Int) < (n : Int) := by omega
        clear lv fr j0 j1 bq ek d3 x3 x2
        go_wp2_with fail
        go_region
        go_wp2_with fail
        exact ⟨⟨k, by omega, by go_num, by rw [HD.out]; exact (LVH.out.setB _).fr ((Fr.refl (fun _ => False) _).drew) (fun _ _ h => h), (FR.out.setCell (p := ⟨b.B, q, none⟩) (fun _ => .inr (.inl rfl)) _).drew⟩, by simp [intOf]⟩

/-- A move's errors that want no lock. -/
def chk (f t a : Int) : Int := if goodB f = true ∧ goodB t = true ∧ 1 ≤ a ∧ a ≤ 999 then (if f = t then 3 else 0) else 2

theorem check_any (f t a : Int) (w : World) : Calls Try.prog 81 #[.agg #[.int .i64 f, .int .i64 t, .int .i64 a]] w fun e w' => e = .returned (.int .i64 (chk f t a)) ∧ Fr (fun _ => False) w w' := by
  have arm : ∀ k (W : World), Calls Try.prog 73 #[.int .i64 k] W fun e w' => e = .returned (.bool (goodB k)) ∧ w' = W := fun k W => good_any k W
  have fa : ∀ c, Fr (fun _ => False) w (w.alloc c) := fun c => (Fr.refl _ _).alloc _
  clear arm
  rcases hf : goodB f with _ | _
  · have HE : Hid (chk f t a = 2) := by simp [Hid, chk, hf]
    rcases ht : goodB t with _ | _
    all_goals
      go_enter Try.func81, Try.ntmps81
      go_wp2_with (first
        | (go_at_call 73; refine (good_any _ _).mono ?_; rintro e w1 ⟨rfl, hw1⟩; obtain rfl := hw1.symm; first | rw [hf] | rw [ht])
        | fail)
      go_ret
      rw [HE.out]
      exact ⟨rfl, fa _⟩
  rcases ht : goodB t with _ | _
  · have HE : Hid (chk f t a = 2) := by simp [Hid, chk, ht]
    go_enter Try.func81, Try.ntmps81
    go_wp2_with (first
      | (go_at_call 73; refine (good_any _ _).mono ?_; rintro e w1 ⟨rfl, hw1⟩; obtain rfl := hw1.symm; first | rw [hf] | rw [ht])
      | fail)
    go_ret
    rw [HE.out]
    exact ⟨rfl, fa _⟩
  by_cases h1 : a < 1
  · have HE : Hid (chk f t a = 2) := by unfold Hid chk; rw [if_neg (by omega)]
    go_enter Try.func81, Try.ntmps81
    go_wp2_with (first
      | (go_at_call 73; refine (good_any _ _).mono ?_; rintro e w1 ⟨rfl, hw1⟩; obtain rfl := hw1.symm; first | rw [hf] | rw [ht])
      | fail)
    go_ret
    rw [HE.out]
    exact ⟨rfl, fa _⟩
  by_cases h2 : 999 < a
  · have HE : Hid (chk f t a = 2) := by unfold Hid chk; rw [if_neg (by omega)]
    go_enter Try.func81, Try.ntmps81
    go_wp2_with (first
      | (go_at_call 73; refine (good_any _ _).mono ?_; rintro e w1 ⟨rfl, hw1⟩; obtain rfl := hw1.symm; first | rw [hf] | rw [ht])
      | fail)
    go_ret
    rw [HE.out]
    exact ⟨rfl, fa _⟩
  by_cases h3 : f = t
  · subst h3
    have HE : Hid (chk f f a = 3) := by unfold Hid chk; rw [if_pos ⟨hf, ht, by omega, by omega⟩, if_pos rfl]
    go_enter Try.func81, Try.ntmps81
    go_wp2_with (first
      | (go_at_call 73; refine (good_any _ _).mono ?_; rintro e w1 ⟨rfl, hw1⟩; obtain rfl := hw1.symm; rw [hf])
      | fail)
    go_ret
    rw [HE.out]
    exact ⟨rfl, fa _⟩
  · have HE : Hid (chk f t a = 0) := by unfold Hid chk; rw [if_pos ⟨hf, ht, by omega, by omega⟩, if_neg h3]
    have h3b : (f == t) = false := by simp [h3]
    clear h3
    go_enter Try.func81, Try.ntmps81
    go_wp2_with (first
      | (go_at_call 73; refine (good_any _ _).mono ?_; rintro e w1 ⟨rfl, hw1⟩; obtain rfl := hw1.symm; first | rw [hf] | rw [ht])
      | fail)
    go_ret
    rw [HE.out]
    exact ⟨rfl, fa _⟩

end Go.Proofs.Qxb6500452a
