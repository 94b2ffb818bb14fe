/- tx.pay. -/
import Derived.Test.Qxb6500452aVRep
namespace Go.Proofs.Qxb6500452a
open Go Go.RowKit
set_option maxRecDepth 100000
set_option maxHeartbeats 1600000
set_option linter.unusedSimpArgs false
set_option linter.unusedVariables false

def payE (bal : Nat → Int) (f t : Nat) (a : Int) : Int := if bal f < a then 6 else if 250 < bal t + a then 7 else 0
def payB (bal : Nat → Int) (f t : Nat) (a : Int) : Nat → Int := if bal f < a then bal else if 250 < bal t + a then updI bal f (bal f - a) else updI (updI bal f (bal f - a)) t (bal t + a)
def payJ (bal : Nat → Int) (f t : Nat) (a : Int) (jr : List (Nat × Int)) : List (Nat × Int) := if bal f < a then jr else if 250 < bal t + a then jr ++ [(f, bal f)] else jr ++ [(f, bal f)] ++ [(t, bal t)]

theorem cellFr {S : Nat → Prop} {W y : World} (h : Fr S W y) {p : Addr} {v : Value} (hn : ¬ S p.block) (hc : W.cell? p = some v) : y.cell? p = some v := by
  rw [h.cell (World.block_lt_of_cell? (a := p) W hc) hn]
  exact hc

theorem pay_any {w : World} {b : LB} {bal : Nat → Int} {jr : List (Nat × Int)} {un pT : Nat} (h : LV w b bal jr un) (ht : At w pT 0 (.pointer (some ⟨b.D, 0, none⟩))) (hT : ¬ S3L b pT) {f t : Nat} (hf : f < 4) (htt : t < 4) (hne : f ≠ t) {a : Int} (a1 : 1 ≤ a) (a2 : a ≤ 999)
    (hb : ∀ k, k < 4 → 0 ≤ bal k ∧ bal k ≤ 250) (hj : jr.length ≤ 4) :
    Calls Try.prog 88 #[.pointer (some ⟨pT, 0, none⟩), .agg #[.int .i64 (f : Int), .int .i64 (t : Int), .int .i64 a]] w fun e w' => e = .returned (.int .i64 (payE bal f t a)) ∧ LV w' b (payB bal f t a) (payJ bal f t a jr) un ∧ Fr (S3L b) w w' := by
  have H := hid h
  have HT := hid ht
  have HTN := hid hT
  have HJ := hid hj
  have hfa : ∀ c, Fr (fun _ => False) w (w.alloc c) := fun c => (Fr.refl _ _).alloc _
  obtain ⟨bf1, bf2⟩ := hb f hf
  obtain ⟨bt1, bt2⟩ := hb t htt
  have HBF := hid hf
  have HBT := hid htt
  have HNE := hid hne
  have c0 := ht.c
  have d1 := h.d1.c
  have f0 := (h.bl f hf).c
  have f1 := (h.bl t htt).c
  have hD : b.D < w.heap.size := h.d0.lt
  have hB : b.B < w.heap.size := (h.bl 0 (by omega)).lt
  have hPl : pT < w.heap.size := ht.lt
  have hi0 : (0 : Int) ≤ (f : Int) := by omega
  have hi4 : (f : Int) < 4 := by omega
  have hk0 : (0 : Int) ≤ (t : Int) := by omega
  have hk4 : (t : Int) < 4 := by omega
  clear h ht hb hf htt hne hj hT
  obtain ⟨bf, hbf⟩ : ∃ x, x = bal f := ⟨_, rfl⟩
  obtain ⟨bt, hbt⟩ : ∃ x, x = bal t := ⟨_, rfl⟩
  have hbF := hid hbf
  have hbT := hid hbt
  rw [← hbf] at bf1 bf2 f0
  rw [← hbt] at bt1 bt2 f1
  clear hbf hbt
  by_cases h1 : bf < a
  · have h1b : decide (bf < a) = true := by simp [h1]
    go_enter Try.func88, Try.ntmps88
    go_wp2_with fail
    go_quiet (fail)
    go_wp2_with fail
    go_ret
    have e1 : bal f < a := by rw [← hbF.out]; exact h1
    simp only [payE, payB, payJ, if_pos e1]
    exact ⟨rfl, (H.out.fr (hfa _) (fun _ _ h => h)).fr ((Fr.refl (fun _ => False) _).drewN _) (fun _ _ h => h), ((Fr.refl _ _).alloc _).drewN _⟩
  have h1b : decide (bf < a) = false := by simp [h1]
  have HS1 := hid (fun W (hW : LV W b bal jr un) (hp : At W pT 0 (.pointer (some ⟨b.D, 0, none⟩))) => set_any hW hp HBF.out (by have := HJ.out; omega) (bf - a))
  have NJ : Hid (∀ x, (jr ++ [x]).length < 6) := fun x => by have := HJ.out; simp; omega
  have HS2 := hid (fun W (hW : LV W b (updI bal f (bf - a)) (jr ++ [(f, bal f)]) un) (hp : At W pT 0 (.pointer (some ⟨b.D, 0, none⟩))) => set_any hW hp HBT.out (NJ.out _) (bt + a))
  have hw1 : IntKind.i64.wrap (bf - a) = bf - a := Go.IntWalk.i64_in _ (by omega)
  have hw2 : IntKind.i64.wrap (bt + a) = bt + a := Go.IntWalk.i64_in _ (by omega)
  go_enter Try.func88, Try.ntmps88
  go_wp2_with fail
  go_quiet (fail)
  go_wp2_with fail
  have hq : Fr (fun _ => False) w ((w.alloc (.cells #[.int .i64 (f : Int), .int .i64 (t : Int), .int .i64 a] 56)).drewN nq) := ((Fr.refl _ _).alloc _).drewN _
  have M : ∀ o v, (#[.int .i64 (f : Int), .int .i64 (t : Int), .int .i64 a] : Array Value)[o]? = some v → At ((w.alloc (.cells #[.int .i64 (f : Int), .int .i64 (t : Int), .int .i64 a] 56)).drewN nq) w.heap.size o v := fun o v hv => (At.new w _ _ hv).drewN _
  have m0 := (M 0 _ rfl).c
  have m1 := (M 1 _ rfl).c
  have m2 := (M 2 _ rfl).c
  have HP : Hid (w.heap.size ≤ w.heap.size) := Nat.le_refl _
  have HV := hid (H.out.fr hq (fun _ _ h => h))
  have HPT := hid (HT.out.fr hq (fun h => h))
  have HML : Hid (∀ i, S3L b i → i ≠ w.heap.size) := fun i hi e => by have := H.out.lt i hi; omega
  have HQ := hid hq
  generalize (w.alloc (.cells #[.int .i64 (f : Int), .int .i64 (t : Int), .int .i64 a] 56)).drewN nq = wq at *
  obtain ⟨pm, hpm⟩ : ∃ pm, pm = w.heap.size := ⟨_, rfl⟩
  rw [← hpm] at m0 m1 m2 HML
  try rw [← hpm]
  have HPM := hid hpm
  have d1 := HV.out.d1.c
  have f0 := (HV.out.bl f HBF.out).c
  have f1 := (HV.out.bl t HBT.out).c
  rw [← hbF.out] at f0
  rw [← hbT.out] at f1
  have nm : ¬ S3L b pm := fun h => HML.out _ h rfl
  have NM := hid nm
  clear M hq hfa c0 hpm nm hD hB hPl
  refine wp_region_held_drew (S := (fun W => W.cell? ⟨pm, 0, none⟩ = some (.int .i64 (f : Int)) ∧ W.cell? ⟨pm, 1, none⟩ = some (.int .i64 (t : Int)) ∧ W.cell? ⟨pm, 2, none⟩ = some (.int .i64 a) ∧ W.cell? ⟨b.D, 1, none⟩ = some (.slice (some ⟨b.B, 0, none⟩) 4 4))) (by kernel_rfl) ?_ (fun hHeld => ?_)
  · (try dsimp only)
    go_keep
  refine wpAnyH_take (i := 0) (v := ?_) rfl (by kernel_rfl) (by kernel_rfl) (by kernel_rfl) (fun _ _ _ h => h) (Or.inl ⟨by rfl, ?_⟩) (by assumption) ?_
  rotate_left
  · intro W hSw
    (try dsimp only at hSw)
    go_simp
    (try with_reducible rfl)
  try simp only [Act.put, List.setIfInBounds_toArray, List.set_cons_zero, List.set_cons_succ]
  refine wpAnyH_take (i := 1) (v := ?_) rfl (by kernel_rfl) (by kernel_rfl) (by kernel_rfl) (fun _ _ _ h => h) (Or.inl ⟨by rfl, ?_⟩) (by assumption) ?_
  rotate_left
  · intro W hSw
    (try dsimp only at hSw)
    go_simp
    (try with_reducible rfl)
  try simp only [Act.put, List.setIfInBounds_toArray, List.set_cons_zero, List.set_cons_succ]
  refine wpAnyH_take (i := 2) (v := ?_) rfl (by kernel_rfl) (by kernel_rfl) (by kernel_rfl) (fun _ _ _ h => h) (Or.inl ⟨by rfl, ?_⟩) (by assumption) ?_
  rotate_left
  · intro W hSw
    (try dsimp only at hSw)
    go_simp
    (try with_reducible rfl)
  try simp only [Act.put, List.setIfInBounds_toArray, List.set_cons_zero, List.set_cons_succ]
  refine wpAnyH_take (i := 3) (v := ?_) rfl (by kernel_rfl) (by kernel_rfl) (by kernel_rfl) (fun _ _ _ h => h) (Or.inl ⟨by rfl, ?_⟩) (by assumption) ?_
  rotate_left
  · intro W hSw
    (try dsimp only at hSw)
    go_simp
    (try with_reducible rfl)
  try simp only [Act.put, List.setIfInBounds_toArray, List.set_cons_zero, List.set_cons_succ]
  refine wpAnyH_take (i := 4) (v := ?_) rfl (by kernel_rfl) (by kernel_rfl) (by kernel_rfl) (fun _ _ _ h => h) (Or.inl ⟨by rfl, ?_⟩) (by assumption) ?_
  rotate_left
  · intro W hSw
    (try dsimp only at hSw)
    go_simp
    (try with_reducible rfl)
  try simp only [Act.put, List.setIfInBounds_toArray, List.set_cons_zero, List.set_cons_succ]
  refine wpAnyH_take (i := 5) (v := ?_) rfl (by kernel_rfl) (by kernel_rfl) (by kernel_rfl) (fun _ _ _ h => h) (Or.inl ⟨by rfl, ?_⟩) (by assumption) ?_
  rotate_left
  · intro W hSw
    (try dsimp only at hSw)
    go_simp
    (try with_reducible rfl)
  try simp only [Act.put, List.setIfInBounds_toArray, List.set_cons_zero, List.set_cons_succ]
  refine wpAnyH_take (i := 6) (v := ?_) rfl (by kernel_rfl) (by kernel_rfl) (by kernel_rfl) (fun _ _ _ h => h) (Or.inl ⟨by rfl, ?_⟩) (by assumption) ?_
  rotate_left
  · intro W hSw
    (try dsimp only at hSw)
    go_simp
    (try with_reducible rfl)
  try simp only [Act.put, List.setIfInBounds_toArray, List.set_cons_zero, List.set_cons_succ]
  refine wpAnyH_take (i := 7) (v := ?_) rfl (by kernel_rfl) (by kernel_rfl) (by kernel_rfl) (fun _ _ _ h => h) (Or.inl ⟨by rfl, ?_⟩) (by assumption) ?_
  rotate_left
  · intro W hSw
    (try dsimp only at hSw)
    go_simp
    (try with_reducible rfl)
  try simp only [Act.put, List.setIfInBounds_toArray, List.set_cons_zero, List.set_cons_succ]
  refine wpAnyH_take (i := 8) (v := ?_) rfl (by kernel_rfl) (by kernel_rfl) (by kernel_rfl) (fun _ _ _ h => h) (Or.inl ⟨by rfl, ?_⟩) (by assumption) ?_
  rotate_left
  · intro W hSw
    (try dsimp only at hSw)
    go_simp
    (try with_reducible rfl)
  try simp only [Act.put, List.setIfInBounds_toArray, List.set_cons_zero, List.set_cons_succ]
  refine wpAnyH_take (i := 9) (v := ?_) rfl (by kernel_rfl) (by kernel_rfl) (by kernel_rfl) (fun _ _ _ h => h) (Or.inl ⟨by rfl, ?_⟩) (by assumption) ?_
  rotate_left
  · intro W hSw
    (try dsimp only at hSw)
    go_simp
    (try with_reducible rfl)
  try simp only [Act.put, List.setIfInBounds_toArray, List.set_cons_zero, List.set_cons_succ]
  refine wpAnyH_take (i := 11) (v := ?_) rfl (by kernel_rfl) (by kernel_rfl) (by kernel_rfl) (fun _ _ _ h => h) (Or.inl ⟨by rfl, ?_⟩) (by assumption) ?_
  rotate_left
  · intro W hSw
    (try dsimp only at hSw)
    go_simp
    (try with_reducible rfl)
  try simp only [Act.put, List.setIfInBounds_toArray, List.set_cons_zero, List.set_cons_succ]
  refine wpAnyH_take (i := 12) (v := ?_) rfl (by kernel_rfl) (by kernel_rfl) (by kernel_rfl) (fun _ _ _ h => h) (Or.inl ⟨by rfl, ?_⟩) (by assumption) ?_
  rotate_left
  · intro W hSw
    (try dsimp only at hSw)
    go_simp
    (try with_reducible rfl)
  try simp only [Act.put, List.setIfInBounds_toArray, List.set_cons_zero, List.set_cons_succ]
  refine wpAnyH_ready (rs := [10]) (by kernel_rfl) (by simp) ?_
  refine AllReadyH.cons rfl (fun K hK => ?_) AllReadyH.nil
  go_simp
  refine hK.out _ _ ?_ (fun hHeld => ?_)
  · (try dsimp only)
    go_keep
  clear hK K
  try simp only [Act.put, List.setIfInBounds_toArray, List.set_cons_zero, List.set_cons_succ]
  refine wpAnyH_take (i := 13) (v := ?_) rfl (by kernel_rfl) (by kernel_rfl) (by kernel_rfl) (fun _ _ _ h => h) (Or.inl ⟨by rfl, ?_⟩) (by assumption) ?_
  rotate_left
  · intro W hSw
    (try dsimp only at hSw)
    go_simp
    (try with_reducible rfl)
  try simp only [Act.put, List.setIfInBounds_toArray, List.set_cons_zero, List.set_cons_succ]
  refine wpAnyH_ready (rs := [14]) (by kernel_rfl) (by simp) ?_
  refine AllReadyH.cons rfl (fun K hK => ?_) AllReadyH.nil
  go_simp
  refine (HS1.out _ (HV.out.fr ((Fr.refl (fun _ => False) _).drew) (fun _ _ h => h)) (HPT.out.fr ((Fr.refl (fun _ => False) _).drew) (fun h => h))).mono ?_
  rintro e y ⟨rfl, lv, gy⟩
  have y0 : y.cell? ⟨pm, 0, none⟩ = some (.int .i64 (f : Int)) := cellFr gy NM.out (by simp [*])
  have y1 : y.cell? ⟨pm, 1, none⟩ = some (.int .i64 (t : Int)) := cellFr gy NM.out (by simp [*])
  have y2 : y.cell? ⟨pm, 2, none⟩ = some (.int .i64 a) := cellFr gy NM.out (by simp [*])
  have y3 := lv.d1.c
  have LV1 := hid lv
  have GY := hid gy
  clear lv gy
  go_wp2_with fail
  refine hK.out _ _ ?_ (fun hHeld => ?_)
  · (try dsimp only)
    go_keep
  clear hK K
  try simp only [Act.put, List.setIfInBounds_toArray, List.set_cons_zero, List.set_cons_succ]
  refine wpAnyH_done (by kernel_rfl) ?_ _
  have hut : updI bal f (bf - a) t = bt := by unfold updI; rw [if_neg (fun e => HNE.out e.symm)]; exact hbT.out.symm
  have ft := (LV1.out.bl t HBT.out).c
  rw [hut] at ft
  have HUT := hid hut
  clear hut f0 f1 d1 m0 m1 m2
  by_cases h2 : 250 < bt + a
  · have h2b : decide (250 < bt + a) = true := by simp [h2]
    go_wp2_with fail
    go_quiet (fail)
    go_wp2_with fail
    go_ret
    have e1 : ¬ bal f < a := by have := hbF.out; omega
    have e2 : 250 < bal t + a := by have := hbT.out; omega
    have lv := LV1.out
    rw [hbF.out] at lv
    simp only [payE, payB, payJ, if_neg e1, if_pos e2]
    exact ⟨rfl, lv.fr ((Fr.refl (fun _ => False) _).drewN _) (fun _ _ h => h), (((HQ.out.mono (S' := S3L b) (fun _ _ h => h.elim)).drew).then GY.out (fun _ _ h => h)).drewN _⟩
  have h2b : decide (250 < bt + a) = false := by simp [h2]
  go_wp2_with fail
  go_quiet (fail)
  go_wp2_with fail
  have gq : Fr (fun _ => False) y (y.drewN nq) := (Fr.refl _ _).drewN _
  have LV2 := hid (LV1.out.fr gq (fun _ _ h => h))
  have PT2 := hid (((HPT.out.drew).fr GY.out HTN.out).fr gq (fun h => h))
  have m0 := (show (y.drewN nq).cell? ⟨pm, 0, none⟩ = _ from y0)
  have m1 := (show (y.drewN nq).cell? ⟨pm, 1, none⟩ = _ from y1)
  have m2 := (show (y.drewN nq).cell? ⟨pm, 2, none⟩ = _ from y2)
  have d1 := (show (y.drewN nq).cell? ⟨b.D, 1, none⟩ = _ from y3)
  have f1 := (show (y.drewN nq).cell? ⟨b.B, t, none⟩ = _ from ft)
  have HQ2 := hid ((((HQ.out.mono (S' := S3L b) (fun _ _ h => h.elim)).drew).then GY.out (fun _ _ h => h)).trans (gq.mono (fun _ _ h => h.elim)))
  clear y0 y1 y2 y3 ft gq
  generalize y.drewN nq = y2 at *
  refine wp_region_held_drew (S := (fun W => W.cell? ⟨pm, 0, none⟩ = some (.int .i64 (f : Int)) ∧ W.cell? ⟨pm, 1, none⟩ = some (.int .i64 (t : Int)) ∧ W.cell? ⟨pm, 2, none⟩ = some (.int .i64 a) ∧ W.cell? ⟨b.D, 1, none⟩ = some (.slice (some ⟨b.B, 0, none⟩) 4 4))) (by kernel_rfl) ?_ (fun hHeld => ?_)
  · (try dsimp only)
    go_keep
  refine wpAnyH_take (i := 0) (v := ?_) rfl (by kernel_rfl) (by kernel_rfl) (by kernel_rfl) (fun _ _ _ h => h) (Or.inl ⟨by rfl, ?_⟩) (by assumption) ?_
  rotate_left
  · intro W hSw
    (try dsimp only at hSw)
    go_simp
    (try with_reducible rfl)
  try simp only [Act.put, List.setIfInBounds_toArray, List.set_cons_zero, List.set_cons_succ]
  refine wpAnyH_take (i := 1) (v := ?_) rfl (by kernel_rfl) (by kernel_rfl) (by kernel_rfl) (fun _ _ _ h => h) (Or.inl ⟨by rfl, ?_⟩) (by assumption) ?_
  rotate_left
  · intro W hSw
    (try dsimp only at hSw)
    go_simp
    (try with_reducible rfl)
  try simp only [Act.put, List.setIfInBounds_toArray, List.set_cons_zero, List.set_cons_succ]
  refine wpAnyH_take (i := 2) (v := ?_) rfl (by kernel_rfl) (by kernel_rfl) (by kernel_rfl) (fun _ _ _ h => h) (Or.inl ⟨by rfl, ?_⟩) (by assumption) ?_
  rotate_left
  · intro W hSw
    (try dsimp only at hSw)
    go_simp
    (try with_reducible rfl)
  try simp only [Act.put, List.setIfInBounds_toArray, List.set_cons_zero, List.set_cons_succ]
  refine wpAnyH_take (i := 3) (v := ?_) rfl (by kernel_rfl) (by kernel_rfl) (by kernel_rfl) (fun _ _ _ h => h) (Or.inl ⟨by rfl, ?_⟩) (by assumption) ?_
  rotate_left
  · intro W hSw
    (try dsimp only at hSw)
    go_simp
    (try with_reducible rfl)
  try simp only [Act.put, List.setIfInBounds_toArray, List.set_cons_zero, List.set_cons_succ]
  refine wpAnyH_take (i := 4) (v := ?_) rfl (by kernel_rfl) (by kernel_rfl) (by kernel_rfl) (fun _ _ _ h => h) (Or.inl ⟨by rfl, ?_⟩) (by assumption) ?_
  rotate_left
  · intro W hSw
    (try dsimp only at hSw)
    go_simp
    (try with_reducible rfl)
  try simp only [Act.put, List.setIfInBounds_toArray, List.set_cons_zero, List.set_cons_succ]
  refine wpAnyH_take (i := 5) (v := ?_) rfl (by kernel_rfl) (by kernel_rfl) (by kernel_rfl) (fun _ _ _ h => h) (Or.inl ⟨by rfl, ?_⟩) (by assumption) ?_
  rotate_left
  · intro W hSw
    (try dsimp only at hSw)
    go_simp
    (try with_reducible rfl)
  try simp only [Act.put, List.setIfInBounds_toArray, List.set_cons_zero, List.set_cons_succ]
  refine wpAnyH_take (i := 6) (v := ?_) rfl (by kernel_rfl) (by kernel_rfl) (by kernel_rfl) (fun _ _ _ h => h) (Or.inl ⟨by rfl, ?_⟩) (by assumption) ?_
  rotate_left
  · intro W hSw
    (try dsimp only at hSw)
    go_simp
    (try with_reducible rfl)
  try simp only [Act.put, List.setIfInBounds_toArray, List.set_cons_zero, List.set_cons_succ]
  refine wpAnyH_take (i := 7) (v := ?_) rfl (by kernel_rfl) (by kernel_rfl) (by kernel_rfl) (fun _ _ _ h => h) (Or.inl ⟨by rfl, ?_⟩) (by assumption) ?_
  rotate_left
  · intro W hSw
    (try dsimp only at hSw)
    go_simp
    (try with_reducible rfl)
  try simp only [Act.put, List.setIfInBounds_toArray, List.set_cons_zero, List.set_cons_succ]
  refine wpAnyH_take (i := 8) (v := ?_) rfl (by kernel_rfl) (by kernel_rfl) (by kernel_rfl) (fun _ _ _ h => h) (Or.inl ⟨by rfl, ?_⟩) (by assumption) ?_
  rotate_left
  · intro W hSw
    (try dsimp only at hSw)
    go_simp
    (try with_reducible rfl)
  try simp only [Act.put, List.setIfInBounds_toArray, List.set_cons_zero, List.set_cons_succ]
  refine wpAnyH_take (i := 9) (v := ?_) rfl (by kernel_rfl) (by kernel_rfl) (by kernel_rfl) (fun _ _ _ h => h) (Or.inl ⟨by rfl, ?_⟩) (by assumption) ?_
  rotate_left
  · intro W hSw
    (try dsimp only at hSw)
    go_simp
    (try with_reducible rfl)
  try simp only [Act.put, List.setIfInBounds_toArray, List.set_cons_zero, List.set_cons_succ]
  refine wpAnyH_take (i := 11) (v := ?_) rfl (by kernel_rfl) (by kernel_rfl) (by kernel_rfl) (fun _ _ _ h => h) (Or.inl ⟨by rfl, ?_⟩) (by assumption) ?_
  rotate_left
  · intro W hSw
    (try dsimp only at hSw)
    go_simp
    (try with_reducible rfl)
  try simp only [Act.put, List.setIfInBounds_toArray, List.set_cons_zero, List.set_cons_succ]
  refine wpAnyH_take (i := 12) (v := ?_) rfl (by kernel_rfl) (by kernel_rfl) (by kernel_rfl) (fun _ _ _ h => h) (Or.inl ⟨by rfl, ?_⟩) (by assumption) ?_
  rotate_left
  · intro W hSw
    (try dsimp only at hSw)
    go_simp
    (try with_reducible rfl)
  try simp only [Act.put, List.setIfInBounds_toArray, List.set_cons_zero, List.set_cons_succ]
  refine wpAnyH_ready (rs := [10]) (by kernel_rfl) (by simp) ?_
  refine AllReadyH.cons rfl (fun K hK => ?_) AllReadyH.nil
  go_simp
  refine hK.out _ _ ?_ (fun hHeld => ?_)
  · (try dsimp only)
    go_keep
  clear hK K
  try simp only [Act.put, List.setIfInBounds_toArray, List.set_cons_zero, List.set_cons_succ]
  refine wpAnyH_take (i := 13) (v := ?_) rfl (by kernel_rfl) (by kernel_rfl) (by kernel_rfl) (fun _ _ _ h => h) (Or.inl ⟨by rfl, ?_⟩) (by assumption) ?_
  rotate_left
  · intro W hSw
    (try dsimp only at hSw)
    go_simp
    (try with_reducible rfl)
  try simp only [Act.put, List.setIfInBounds_toArray, List.set_cons_zero, List.set_cons_succ]
  refine wpAnyH_ready (rs := [14]) (by kernel_rfl) (by simp) ?_
  refine AllReadyH.cons rfl (fun K hK => ?_) AllReadyH.nil
  go_simp
  refine (HS2.out _ (LV2.out.fr ((Fr.refl (fun _ => False) _).drew) (fun _ _ h => h)) (PT2.out.fr ((Fr.refl (fun _ => False) _).drew) (fun h => h))).mono ?_
  rintro e z ⟨rfl, lv, gz⟩
  have z0 : z.cell? ⟨pm, 0, none⟩ = some (.int .i64 (f : Int)) := cellFr gz NM.out (by simp [*])
  have z1 : z.cell? ⟨pm, 1, none⟩ = some (.int .i64 (t : Int)) := cellFr gz NM.out (by simp [*])
  have z2 : z.cell? ⟨pm, 2, none⟩ = some (.int .i64 a) := cellFr gz NM.out (by simp [*])
  have z3 := lv.d1.c
  have LV3 := hid lv
  have GZ := hid gz
  clear lv gz
  go_wp2_with fail
  refine hK.out _ _ ?_ (fun hHeld => ?_)
  · (try dsimp only)
    go_keep
  clear hK K
  try simp only [Act.put, List.setIfInBounds_toArray, List.set_cons_zero, List.set_cons_succ]
  refine wpAnyH_done (by kernel_rfl) ?_ _
  go_wp2_with fail
  go_ret
  have e1 : ¬ bal f < a := by have := hbF.out; omega
  have e2 : ¬ 250 < bal t + a := by have := hbT.out; omega
  have lv := LV3.out
  rw [HUT.out, hbF.out, hbT.out] at lv
  simp only [payE, payB, payJ, if_neg e1, if_neg e2]
  exact ⟨rfl, lv, (HQ2.out.drew).trans GZ.out⟩

end Go.Proofs.Qxb6500452a
