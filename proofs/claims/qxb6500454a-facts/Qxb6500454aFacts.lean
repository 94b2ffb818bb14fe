import Derived.Test.Qxb6500454aOpen
namespace Go.Proofs.Qxb6500454a
open Go Go.RowKit Go.Deep Go.ChangeShapes Go.WideShapes Go.ChangeAt
set_option maxRecDepth 100000
set_option maxHeartbeats 1600000
set_option linter.unusedSimpArgs false
set_option linter.unusedVariables false

/-- Two tables share no block. -/
def Ap (aT aC aR bT bC bR : Nat) : Prop := ∀ i, S3 aT aC aR i → ¬ S3 bT bC bR i

theorem Ap.symm {aT aC aR bT bC bR : Nat} (h : Ap aT aC aR bT bC bR) : Ap bT bC bR aT aC aR := fun i hb ha => h i ha hb

theorem RT.ap {w w' : World} {aT aC aR bT bC bR : Nat} {s : L.St} (h : RT w bT bC bR s) (hf : Fr (S3 aT aC aR) w w') (hp : Ap aT aC aR bT bC bR) : RT w' bT bC bR s :=
  h.fr hf (fun e => hp _ e (.inl rfl)) (fun e => hp _ e (.inr (.inl rfl))) (fun e => hp _ e (.inr (.inr rfl)))

theorem RT.q {w w' : World} {bT bC bR : Nat} {s : L.St} (h : RT w bT bC bR s) (hf : Fr (fun _ => False) w w') : RT w' bT bC bR s := h.fr hf (fun f => f) (fun f => f) (fun f => f)

theorem ap_new {w : World} {bT bC bR : Nat} {s : L.St} (h : RT w bT bC bR s) : Ap bT bC bR w.heap.size (w.heap.size + 1) (w.heap.size + 2) := fun i hi => by
  have := h.lt
  unfold S3 at *
  omega

/-! The states, one behind the other. -/
def sa1 : L.St := (L.acq L.init 0).2.2
def sb1 : L.St := (L.acq L.init 1).2.2
def sb2 : L.St := L.clear sb1
def sb3 : L.St := (L.acq sb2 2).2.2
def sb4 : L.St := (L.rel sb3 1).2
def sb5 : L.St := (L.pair sb4 0 2).2.2.2
def sb6 : L.St := (L.allTo 4 sb5).2
def sb7 : L.St := (L.acq sb6 3).2.2
def sa2 : L.St := L.clear sa1
def sa3 : L.St := (L.allTo 4 sa2).2

theorem ea1 : L.acq L.init 0 = (0, 0, sa1) := by kernel_rfl
theorem eb1 : L.acq L.init 1 = (1, 0, sb1) := by kernel_rfl
theorem eb3 : L.acq sb2 2 = (2, 0, sb3) := by kernel_rfl
theorem eb4 : L.rel sb3 1 = (0, sb4) := by kernel_rfl
theorem eb5 : L.pair sb4 0 2 = (0, 0, 4, sb5) := by kernel_rfl
theorem eb6 : L.allTo 4 sb5 = (1, sb6) := by kernel_rfl
theorem eb7 : L.acq sb6 3 = (3, 0, sb7) := by kernel_rfl
theorem ea3 : L.allTo 4 sa2 = (1, sa3) := by kernel_rfl
theorem show_sa1 : L.bs (L.showL sa1) = ⟨#[111, 112, 101, 110, 61, 49, 48, 48, 48, 32, 103, 101, 110, 61, 48, 48, 48, 48, 32, 116, 114, 97, 99, 101, 61, 65, 48]⟩ := by kernel_rfl
theorem show_sb5 : L.bs (L.showL sb5) = ⟨#[111, 112, 101, 110, 61, 48, 48, 49, 48, 32, 103, 101, 110, 61, 49, 49, 48, 48, 32, 116, 114, 97, 99, 101, 61, 65, 50, 82, 49, 65, 48, 82, 48]⟩ := by kernel_rfl
theorem show_sb6 : L.bs (L.showL sb6) = ⟨#[111, 112, 101, 110, 61, 48, 48, 48, 48, 32, 103, 101, 110, 61, 49, 49, 49, 48, 32, 116, 114, 97, 99, 101, 61, 65, 50, 82, 49, 65, 48, 82, 48, 82, 50]⟩ := by kernel_rfl
theorem show_sa3 : L.bs (L.showL sa3) = ⟨#[111, 112, 101, 110, 61, 48, 48, 48, 48, 32, 103, 101, 110, 61, 49, 48, 48, 48, 32, 116, 114, 97, 99, 101, 61, 82, 48]⟩ := by kernel_rfl
theorem show_sb7 : L.bs (L.showL sb7) = ⟨#[111, 112, 101, 110, 61, 48, 48, 48, 49, 32, 103, 101, 110, 61, 49, 49, 49, 48, 32, 116, 114, 97, 99, 101, 61, 65, 50, 82, 49, 65, 48, 82, 48, 82, 50, 65, 51]⟩ := by kernel_rfl
theorem show_init : L.bs (L.showL L.init) = ⟨#[111, 112, 101, 110, 61, 48, 48, 48, 48, 32, 103, 101, 110, 61, 48, 48, 48, 48, 32, 116, 114, 97, 99, 101, 61]⟩ := by kernel_rfl
theorem cnt_sa1 : (sa1.cnt : Int) = 1 := by kernel_rfl
theorem cnt_sb5 : (sb5.cnt : Int) = 1 := by kernel_rfl
theorem cnt_sb6 : (sb6.cnt : Int) = 0 := by kernel_rfl
theorem cnt_sb7 : (sb7.cnt : Int) = 1 := by kernel_rfl

theorem facts_walk (w : World) : Calls Try.prog 7 #[] w fun e w' => e = .returned (.bool true) ∧ Below w.heap.size w w' := by
  obtain ⟨N, hN⟩ : ∃ N, N = w.heap.size := ⟨_, rfl⟩
  have HN := hid hN
  clear hN
  go_enter Try.func7, Try.ntmps7
  go_wp2_with fail
  refine (new_any _).mono ?_
  rintro e w1 ⟨rfl, ra, f1⟩
  have HA := hid ra
  have HW := hid f1
  have LA : Hid (∀ i, S3 w.heap.size (w.heap.size + 1) (w.heap.size + 2) i → N ≤ i) := fun i hi => by have := HN.out; unfold S3 at hi; omega
  clear ra f1
  generalize w.heap.size + 1 = aC at *
  generalize w.heap.size + 2 = aR at *
  have HN2 : Hid (N = w.heap.size) := HN.out
  generalize hsz : w.heap.size = aT at LA HA ⊢
  clear hsz
  go_wp2_with fail
  refine (new_any _).mono ?_
  rintro e w2 ⟨rfl, rb, f2⟩
  have AB := hid (ap_new HA.out)
  have LB : Hid (∀ i, S3 w1.heap.size (w1.heap.size + 1) (w1.heap.size + 2) i → N ≤ i) := fun i hi => by have := HW.out.size; have := HN.out; unfold S3 at hi; omega
  replace HA := hid (HA.out.q f2)
  have HB := hid rb
  replace HW := hid (HW.out.trans f2)
  clear rb f2
  generalize w1.heap.size + 1 = bC at *
  generalize w1.heap.size + 2 = bR at *
  generalize w1.heap.size = bT at *
  go_wp2_with fail
  have c3 := acquire_any HA.out 0
  rw [ea1] at c3
  refine c3.mono ?_
  clear c3
  rintro e w3 ⟨rfl, r3, f3⟩
  replace HA : Hid (RT w3 aT aC aR sa1) := r3
  replace HB := hid (HB.out.ap f3 AB.out)
  replace HW := hid (HW.out.then f3 (fun i hi hs => by have := LA.out i hs; have := HN.out; omega))
  clear r3 f3
  go_wp2_with fail
  have c4 := acquire_any HB.out 1
  rw [eb1] at c4
  refine c4.mono ?_
  clear c4
  rintro e w4 ⟨rfl, r4, f4⟩
  replace HA := hid (HA.out.ap f4 AB.out.symm)
  replace HB : Hid (RT w4 bT bC bR sb1) := r4
  replace HW := hid (HW.out.then f4 (fun i hi hs => by have := LB.out i hs; have := HN.out; omega))
  clear r4 f4
  go_wp2_with fail
  have c5 := clear_any HB.out
  refine c5.mono ?_
  clear c5
  rintro e w5 ⟨rfl, r5, f5⟩
  replace HA := hid (HA.out.ap f5 AB.out.symm)
  replace HB : Hid (RT w5 bT bC bR sb2) := r5
  replace HW := hid (HW.out.then f5 (fun i hi hs => by have := LB.out i hs; have := HN.out; omega))
  clear r5 f5
  go_wp2_with fail
  have c6 := acquire_any HB.out 2
  rw [eb3] at c6
  refine c6.mono ?_
  clear c6
  rintro e w6 ⟨rfl, r6, f6⟩
  replace HA := hid (HA.out.ap f6 AB.out.symm)
  replace HB : Hid (RT w6 bT bC bR sb3) := r6
  replace HW := hid (HW.out.then f6 (fun i hi hs => by have := LB.out i hs; have := HN.out; omega))
  clear r6 f6
  go_wp2_with fail
  have c7 := release_any HB.out 1
  rw [eb4] at c7
  refine c7.mono ?_
  clear c7
  rintro e w7 ⟨rfl, r7, f7⟩
  replace HA := hid (HA.out.ap f7 AB.out.symm)
  replace HB : Hid (RT w7 bT bC bR sb4) := r7
  replace HW := hid (HW.out.then f7 (fun i hi hs => by have := LB.out i hs; have := HN.out; omega))
  clear r7 f7
  go_wp2_with fail
  have c8 := pair_any HB.out 0 2
  rw [eb5] at c8
  refine c8.mono ?_
  clear c8
  rintro e w8 ⟨rfl, r8, f8⟩
  replace HA := hid (HA.out.ap f8 AB.out.symm)
  replace HB : Hid (RT w8 bT bC bR sb5) := r8
  replace HW := hid (HW.out.then f8 (fun i hi hs => by have := LB.out i hs; have := HN.out; omega))
  clear r8 f8
  go_wp2_with fail
  have c9 := show_any HA.out
  rw [show_sa1] at c9
  refine c9.mono ?_
  clear c9
  rintro e w9 ⟨rfl, f9⟩
  replace HA := hid (HA.out.q f9)
  replace HB := hid (HB.out.q f9)
  replace HW := hid (HW.out.trans f9)
  clear f9
  go_wp2_with fail
  have c10 := show_any HB.out
  rw [show_sb5] at c10
  refine c10.mono ?_
  clear c10
  rintro e w10 ⟨rfl, f10⟩
  replace HA := hid (HA.out.q f10)
  replace HB := hid (HB.out.q f10)
  replace HW := hid (HW.out.trans f10)
  clear f10
  go_wp2_with fail
  have c11 := held_any HA.out
  rw [cnt_sa1] at c11
  refine c11.mono ?_
  clear c11
  rintro e w11 ⟨rfl, f11⟩
  subst f11
  go_wp2_with fail
  have c12 := held_any HB.out
  rw [cnt_sb5] at c12
  refine c12.mono ?_
  clear c12
  rintro e w12 ⟨rfl, f12⟩
  subst f12
  go_wp2_with fail
  have c13 := check_any HA.out
  refine c13.mono ?_
  clear c13
  rintro e w13 ⟨rfl, f13⟩
  replace HA := hid (HA.out.q f13)
  replace HB := hid (HB.out.q f13)
  replace HW := hid (HW.out.trans f13)
  clear f13
  go_wp2_with fail
  have c14 := check_any HB.out
  refine c14.mono ?_
  clear c14
  rintro e w14 ⟨rfl, f14⟩
  replace HA := hid (HA.out.q f14)
  replace HB := hid (HB.out.q f14)
  replace HW := hid (HW.out.trans f14)
  clear f14
  go_wp2_with fail
  have c15 := all_any HB.out
  rw [eb6] at c15
  refine c15.mono ?_
  clear c15
  rintro e w15 ⟨rfl, r15, f15⟩
  replace HA := hid (HA.out.ap f15 AB.out.symm)
  replace HB : Hid (RT w15 bT bC bR sb6) := r15
  replace HW := hid (HW.out.then f15 (fun i hi hs => by have := LB.out i hs; have := HN.out; omega))
  clear r15 f15
  go_wp2_with fail
  have c16 := show_any HA.out
  rw [show_sa1] at c16
  refine c16.mono ?_
  clear c16
  rintro e w16 ⟨rfl, f16⟩
  replace HA := hid (HA.out.q f16)
  replace HB := hid (HB.out.q f16)
  replace HW := hid (HW.out.trans f16)
  clear f16
  go_wp2_with fail
  have c17 := show_any HB.out
  rw [show_sb6] at c17
  refine c17.mono ?_
  clear c17
  rintro e w17 ⟨rfl, f17⟩
  replace HA := hid (HA.out.q f17)
  replace HB := hid (HB.out.q f17)
  replace HW := hid (HW.out.trans f17)
  clear f17
  go_wp2_with fail
  have c18 := held_any HA.out
  rw [cnt_sa1] at c18
  refine c18.mono ?_
  clear c18
  rintro e w18 ⟨rfl, f18⟩
  subst f18
  go_wp2_with fail
  have c19 := held_any HB.out
  rw [cnt_sb6] at c19
  refine c19.mono ?_
  clear c19
  rintro e w19 ⟨rfl, f19⟩
  subst f19
  go_wp2_with fail
  have c20 := acquire_any HB.out 3
  rw [eb7] at c20
  refine c20.mono ?_
  clear c20
  rintro e w20 ⟨rfl, r20, f20⟩
  replace HA := hid (HA.out.ap f20 AB.out.symm)
  replace HB : Hid (RT w20 bT bC bR sb7) := r20
  replace HW := hid (HW.out.then f20 (fun i hi hs => by have := LB.out i hs; have := HN.out; omega))
  clear r20 f20
  go_wp2_with fail
  refine (new_any _).mono ?_
  rintro e wc ⟨rfl, rc, fc⟩
  have AC := hid (ap_new HA.out)
  have BC := hid (ap_new HB.out)
  have HC := hid rc
  replace HA := hid (HA.out.q fc)
  replace HB := hid (HB.out.q fc)
  replace HW := hid (HW.out.trans fc)
  clear rc fc
  generalize w20.heap.size + 1 = cC at *
  generalize w20.heap.size + 2 = cR at *
  generalize w20.heap.size = cT at *
  go_wp2_with fail
  have c21 := clear_any HA.out
  refine c21.mono ?_
  clear c21
  rintro e w21 ⟨rfl, r21, f21⟩
  replace HA : Hid (RT w21 aT aC aR sa2) := r21
  replace HB := hid (HB.out.ap f21 AB.out)
  replace HC := hid (HC.out.ap f21 AC.out)
  replace HW := hid (HW.out.then f21 (fun i hi hs => by have := LA.out i hs; have := HN.out; omega))
  clear r21 f21
  go_wp2_with fail
  have c22 := all_any HA.out
  rw [ea3] at c22
  refine c22.mono ?_
  clear c22
  rintro e w22 ⟨rfl, r22, f22⟩
  replace HA : Hid (RT w22 aT aC aR sa3) := r22
  replace HB := hid (HB.out.ap f22 AB.out)
  replace HC := hid (HC.out.ap f22 AC.out)
  replace HW := hid (HW.out.then f22 (fun i hi hs => by have := LA.out i hs; have := HN.out; omega))
  clear r22 f22
  go_wp2_with fail
  have c23 := show_any HA.out
  rw [show_sa3] at c23
  refine c23.mono ?_
  clear c23
  rintro e w23 ⟨rfl, f23⟩
  replace HA := hid (HA.out.q f23)
  replace HB := hid (HB.out.q f23)
  replace HC := hid (HC.out.q f23)
  replace HW := hid (HW.out.trans f23)
  clear f23
  go_wp2_with fail
  have c24 := show_any HB.out
  rw [show_sb7] at c24
  refine c24.mono ?_
  clear c24
  rintro e w24 ⟨rfl, f24⟩
  replace HA := hid (HA.out.q f24)
  replace HB := hid (HB.out.q f24)
  replace HC := hid (HC.out.q f24)
  replace HW := hid (HW.out.trans f24)
  clear f24
  go_wp2_with fail
  have c25 := show_any HC.out
  rw [show_init] at c25
  refine c25.mono ?_
  clear c25
  rintro e w25 ⟨rfl, f25⟩
  replace HA := hid (HA.out.q f25)
  replace HB := hid (HB.out.q f25)
  replace HC := hid (HC.out.q f25)
  replace HW := hid (HW.out.trans f25)
  clear f25
  go_wp2_with fail
  have c26 := held_any HB.out
  rw [cnt_sb7] at c26
  refine c26.mono ?_
  clear c26
  rintro e w26 ⟨rfl, f26⟩
  subst f26
  go_wp2_with fail
  have c27 := check_any HA.out
  refine c27.mono ?_
  clear c27
  rintro e w27 ⟨rfl, f27⟩
  replace HA := hid (HA.out.q f27)
  replace HB := hid (HB.out.q f27)
  replace HC := hid (HC.out.q f27)
  replace HW := hid (HW.out.trans f27)
  clear f27
  go_wp2_with fail
  have c28 := check_any HB.out
  refine c28.mono ?_
  clear c28
  rintro e w28 ⟨rfl, f28⟩
  replace HA := hid (HA.out.q f28)
  replace HB := hid (HB.out.q f28)
  replace HC := hid (HC.out.q f28)
  replace HW := hid (HW.out.trans f28)
  clear f28
  go_wp2_with fail
  have c29 := check_any HC.out
  refine c29.mono ?_
  clear c29
  rintro e w29 ⟨rfl, f29⟩
  replace HA := hid (HA.out.q f29)
  replace HB := hid (HB.out.q f29)
  replace HC := hid (HC.out.q f29)
  replace HW := hid (HW.out.trans f29)
  clear f29
  go_wp2_with fail
  go_ret
  exact ⟨rfl, HW.out.below⟩

theorem facts_lifted (os : Os) (started : os.Started) (H : Type) (enc : TypeId × Value → H) :
    ReturnsInHanded {} Try.checked os 7 .any (Rows.factsSpec.pre6 enc Try.prog Try.f7 Rows.factsRow.domain false) (Rows.factsSpec.post enc Try.prog Try.f7 false true false false) := by
  refine returnsInHanded_of_change (C := Try.checked) own started (by kernel_rfl) Try.func7
    (ChangeSpec.witness6 (enc := enc) (C := Try.checked) false ⟨#[], #[], []⟩ 8 (by kernel_rfl) (by kernel_rfl) (by kernel_rfl) (by kernel_rfl)) ?_
  intro W base args ds gs before hval0 hW hcnd _
  have hW' := hW
  obtain ⟨p, q, hA0, hV, rfl, hfz, hnd⟩ := hW
  have hA : DataW.TrodAll enc Try.prog W 0 (fun _ => true) true Try.f7.params.toList args.toList ds p := hA0
  rw [Try.params7] at hA
  obtain ⟨rfl, rfl, rfl⟩ := trodAll_none hA
  obtain ⟨rfl, rfl⟩ := trodVars_none hV
  clear hA0 hval0
  refine (facts_walk W).mono fun e W' ⟨he, bel⟩ => ?_
  subst he
  exact ⟨_, rfl, _, _, _, [], [], [], hW', trodAll_mk1 (shut_bool Try.underlying4 _), rfl, rfl, bel.frame _, fun h => by cases h⟩

theorem facts_over : Rows.factsRow.holds Try.pinned (OpenSpec.ofChange Rows.factsSpec) :=
  OpenClaim.holds_of_wide 7 Try.f7 rfl rfl rfl rfl rfl rfl rfl ⟨rfl, rfl, rfl, rfl, rfl⟩ rfl rfl rfl rfl rfl (by kernel_rfl) Try.func7 (by kernel_rfl)
    (of_decide_eq_true (by kernel_rfl)) (by unfold Func.isWrapper; first | (rw [if_pos (by decide +kernel)]; kernel_rfl) | (rw [if_neg (by decide +kernel)]; exact ⟨rfl, rfl⟩))
    (fun os started H enc _ => facts_lifted os started H enc)

/-- The given statement. -/
theorem facts_proved : Rows.FactsSaid := facts_over
end Go.Proofs.Qxb6500454a
