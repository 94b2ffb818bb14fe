/- Ground, Low, Twin. -/
import Derived.Test.Qxb6500450aQDo
import Derived.Test.Qxb6500450aQStep
namespace Go.Proofs.Qxb6500450a
open Go Go.RowKit
set_option maxRecDepth 100000
set_option maxHeartbeats 1600000
set_option linter.unusedSimpArgs false
set_option linter.unusedVariables false
variable {bS bX : Nat}

def bwV (bX : Nat) : Value := .agg #[.pointer (some ⟨bX, 0, none⟩)]
theorem ground_any (w : World) : Calls Try.prog 6 #[] w fun e w' => ∃ b bS, e = .returned (bwV b) ∧ w.heap.size ≤ b ∧ XR bS w' (fun i => w.heap.size ≤ i ∧ i < w'.heap.size) b noD (fun _ => 0) ∧ Fr (fun _ => False) w w' := by
  have FA := hid ((Fr.refl (fun _ => False) w).alloc (.cells #[.pointer none] 27))
  have A0 : Hid (At (w.alloc (.cells #[.pointer none] 27)) w.heap.size 0 (.pointer none)) := At.new w _ _ rfl
  have HZ : Hid ((w.alloc (.cells #[.pointer none] 27)).heap.size = w.heap.size + 1) := by simp [Hid]
  go_enter Try.func6, Try.ntmps6
  go_wp2_with fail
  refine (new_any _).mono ?_
  rintro e w1 ⟨rfl, hr, f1⟩
  rw [HZ.out] at hr ⊢
  have HR := hid hr.within
  have F1 := hid (FA.out.trans f1)
  have A1 := hid (A0.out.fr f1 (fun h => h))
  clear hr f1
  obtain ⟨bS, hb⟩ : ∃ b, b = w.heap.size + 1 + 3 := ⟨_, rfl⟩
  rw [← hb] at HR ⊢
  clear hb
  obtain ⟨p, hp⟩ : ∃ p, p = w.heap.size := ⟨_, rfl⟩
  rw [← hp] at A1 ⊢
  have HP := hid hp
  clear hp
  go_wp2_with fail
  refine (inew_any HR.out (fun i hi => hi.2)).mono ?_
  rintro e w2 ⟨b, rfl, hb, xr, f2⟩
  have XX := hid xr
  have F2 := hid (F1.out.trans f2)
  have A2 := hid (A1.out.fr f2 (fun h => h))
  have HB : Hid (w.heap.size + 1 ≤ w1.heap.size ∧ w1.heap.size ≤ b) := ⟨by have := A1.out.lt; have := HP.out; omega, hb⟩
  clear xr f2 hb
  have c0 := A2.out.c
  have f0 := A2.out.f
  go_wp2_with fail
  have g : Fr (fun i => i = p) w2 (w2.setCell ⟨p, 0, none⟩ (.pointer (some ⟨b, 0, none⟩))) := (Fr.refl (fun i => i = p) w2).setCell (p := ⟨p, 0, none⟩) (fun _ => rfl) _
  have hsz : (w2.setCell ⟨p, 0, none⟩ (.pointer (some ⟨b, 0, none⟩))).heap.size = w2.heap.size := by simp
  have z0 := (A2.out.same (.pointer (some ⟨b, 0, none⟩))).c
  generalize w2.setCell ⟨p, 0, none⟩ (.pointer (some ⟨b, 0, none⟩)) = W at *
  have hp := HP.out
  have hbb := HB.out
  refine ⟨rfl, _, by simp [results, Try.results6, go_sem, z0]; rfl, b, bS, rfl, by omega, ?_, ?_⟩
  · refine ((XX.out.bound).frw g (fun i hi e => ?_)).wide (fun i hi => ⟨?_, by rw [hsz]; exact hi.2⟩)
    · rcases hi.1 with hi | hi
      · have := hi.1; omega
      · omega
    · rcases hi.1 with hi | hi
      · have := hi.1; omega
      · omega
  · exact F2.out.then g (fun i hi e => by omega)

theorem low_any {w : World} {F : Nat → Prop} {f : DocF} {r : Int → Nat} (h : XR bS w F bX f r) (hr : ∀ k, r k < 4611686018427387904) :
    Calls Try.prog 13 #[bwV bX] w fun e w' => e = .returned (.string (bs (showI f r))) ∧ Fr (fun _ => False) w w' := by
  have FA := hid ((Fr.refl (fun _ => False) w).alloc (.cells #[.pointer (some ⟨bX, 0, none⟩)] 27))
  have H1 := hid (ishow_any (h.frw FA.out (fun _ _ h => h)) hr)
  clear h hr
  unfold bwV
  go_enter Try.func13, Try.ntmps13
  go_wp2_with fail
  refine H1.out.mono ?_
  rintro e w1 ⟨rfl, f1⟩
  have F1 := hid (FA.out.trans f1)
  clear f1
  go_wp2_with fail
  go_ret
  exact ⟨rfl, F1.out⟩

theorem twin_end {w w1 : World} {F : Nat → Prop} {f' : DocF} {r' : Int → Nat} {c0 c1 c2 : Obj} (hF : ∀ i, F i → i < w.heap.size) (hr : XR bS w1 (fun i => F i ∨ w.heap.size + 3 ≤ i) bX f' r') (hf : Fr F (((w.alloc c0).alloc c1).alloc c2) w1) (v0 v1 v2 v3 : Value) {pa : Nat} (hpa : pa = w.heap.size + 1 + 1) :
    XR bS ((((w1.setCell ⟨pa, 0, none⟩ v0).setCell ⟨pa, 1, none⟩ v1).setCell ⟨pa, 2, none⟩ v2).setCell ⟨pa, 3, none⟩ v3) (grow F w ((((w1.setCell ⟨pa, 0, none⟩ v0).setCell ⟨pa, 1, none⟩ v1).setCell ⟨pa, 2, none⟩ v2).setCell ⟨pa, 3, none⟩ v3)) bX f' r' ∧
    Fr F w ((((w1.setCell ⟨pa, 0, none⟩ v0).setCell ⟨pa, 1, none⟩ v1).setCell ⟨pa, 2, none⟩ v2).setCell ⟨pa, 3, none⟩ v3) := by
  have hb := box_fr w1 pa v0 v1 v2 v3
  generalize (((w1.setCell ⟨pa, 0, none⟩ v0).setCell ⟨pa, 1, none⟩ v1).setCell ⟨pa, 2, none⟩ v2).setCell ⟨pa, 3, none⟩ v3 = w2 at *
  have hs := hf.size
  simp only [World.size_alloc] at hs
  refine ⟨((hr.frw hb (fun i hi e => ?_)).bound).wide (fun i hi => ?_), ((((Fr.refl F w).alloc _).alloc _).alloc _ |>.trans hf).then hb (fun i hi e => by omega)⟩
  · rcases hi with hi | hi
    · have := hF i hi; omega
    · omega
  · obtain ⟨h1, h2⟩ := hi
    rcases h1 with h1 | h1
    · exact .inl h1
    · exact .inr ⟨by omega, h2⟩
theorem twin_box {w w1 : World} {F : Nat → Prop} (hF : ∀ i, F i → i < w.heap.size) {c0 c : Obj} (hf : Fr F (((w.alloc c0).alloc c).alloc (.cells #[.int .i64 0, .int .i64 0, .int .i64 0, .string ⟨#[]⟩] 35)) w1) : Box w1 (w.heap.size + 1 + 1) := by
  have := Box.new ((w.alloc c0).alloc c)
  simp only [World.size_alloc] at this
  exact this.fr hf (fun h => by have := hF _ h; omega)

theorem twin_put {w : World} {F : Nat → Prop} {f : DocF} {r : Int → Nat} (h : XR bS w F bX f r) (hF : ∀ i, F i → i < w.heap.size) (hr : ∀ k, r k < 4611686018427387904) (o : Stp) (hk : o.kind = 1) :
    Calls Try.prog 12 #[bwV bX, o.val] w fun e w' => e = .returned (doV f r o) ∧ XR bS w' (grow F w w') bX (doF f o) (doR f r o) ∧ Fr F w w' := by
  obtain ⟨kind, a, b, c, os, ot⟩ := o
  simp only at hk
  subst hk
  have hV : doV f r ⟨1, a, b, c, os, ot⟩ = ansV (putE f a b os) 0 0 ⟨#[]⟩ := by simp [doV, doE, doN, doM, doT]
  have hD : doF f ⟨1, a, b, c, os, ot⟩ = putF f a b os := by simp [doF]
  have hRR : doR f r ⟨1, a, b, c, os, ot⟩ = putR f r a b os := by simp [doR]
  rw [hV, hD, hRR]
  clear hV hD hRR
  simp only [Stp.val, ansV, bwV]
  have H := hid h
  have HF := hid hF
  have HR := hid hr
  clear h hF hr
  have SW : Hid (XR bS (((w.alloc (.cells #[.pointer (some ⟨bX, 0, none⟩)] 27)).alloc (.cells #[.int .i64 1, .int .i64 a, .int .i64 b, .int .i64 c, .string os, .string ot] 38)).alloc (.cells #[.int .i64 0, .int .i64 0, .int .i64 0, .string ⟨#[]⟩] 35)) F bX f r) := H.out.frw ((((Fr.refl (fun _ => False) w).alloc _).alloc _).alloc _) (fun _ _ h => h)
  have HW2 : Hid (∀ i, F i → i < (((w.alloc (.cells #[.pointer (some ⟨bX, 0, none⟩)] 27)).alloc (.cells #[.int .i64 1, .int .i64 a, .int .i64 b, .int .i64 c, .string os, .string ot] 38)).alloc (.cells #[.int .i64 0, .int .i64 0, .int .i64 0, .string ⟨#[]⟩] 35)).heap.size) := fun i hi => by have := HF.out i hi; simp; omega
  go_enter Try.func12, Try.ntmps12
  go_wp2_with fail
  refine (iput_any SW.out HW2.out a b os HR.out).mono ?_
  rintro e w1 ⟨rfl, hr0, hf⟩
  have hr1 : XR bS w1 (fun i => F i ∨ w.heap.size + 3 ≤ i) bX _ _ := hr0.wide (fun i hi => by simpa [World.size_alloc, Nat.add_assoc] using hi)
  clear hr0
  have B := hid (twin_box HF.out hf)
  have HE : Hid (∀ {pa : Nat} (hpa : pa = w.heap.size + 1 + 1) (v0 v1 v2 v3 : Value), _) := fun hpa v0 v1 v2 v3 => twin_end HF.out hr1 hf v0 v1 v2 v3 hpa
  clear hr1 hf SW HW2
  obtain ⟨pa, hpa⟩ : ∃ pa, pa = w.heap.size + 1 + 1 := ⟨_, rfl⟩
  rw [← hpa] at B ⊢
  have HPA := hid hpa
  clear hpa
  have c0 := B.out.a0.c
  have c1 := B.out.a1.c
  have c2 := B.out.a2.c
  have c3 := B.out.a3.c
  have f0 := B.out.a0.f
  have f1 := B.out.a1.f
  have f2 := B.out.a2.f
  have f3 := B.out.a3.f
  go_wp2_with fail
  exact retA Try.results12 rfl rfl B.out.a0.has B.out.a1.has B.out.a2.has B.out.a3.has ⟨rfl, (HE.out HPA.out _ _ _ _).1, (HE.out HPA.out _ _ _ _).2⟩

theorem twin_del {w : World} {F : Nat → Prop} {f : DocF} {r : Int → Nat} (h : XR bS w F bX f r) (hF : ∀ i, F i → i < w.heap.size) (hr : ∀ k, r k < 4611686018427387904) (o : Stp) (hk : o.kind = 2) :
    Calls Try.prog 12 #[bwV bX, o.val] w fun e w' => e = .returned (doV f r o) ∧ XR bS w' (grow F w w') bX (doF f o) (doR f r o) ∧ Fr F w w' := by
  obtain ⟨kind, a, b, c, os, ot⟩ := o
  simp only at hk
  subst hk
  have hV : doV f r ⟨2, a, b, c, os, ot⟩ = ansV (delE f a) 0 0 ⟨#[]⟩ := by simp [doV, doE, doN, doM, doT]
  have hD : doF f ⟨2, a, b, c, os, ot⟩ = delD f a := by simp [doF]
  have hRR : doR f r ⟨2, a, b, c, os, ot⟩ = r := by simp [doR]
  rw [hV, hD, hRR]
  clear hV hD hRR
  simp only [Stp.val, ansV, bwV]
  have H := hid h
  have HF := hid hF
  have HR := hid hr
  clear h hF hr
  have SW : Hid (XR bS (((w.alloc (.cells #[.pointer (some ⟨bX, 0, none⟩)] 27)).alloc (.cells #[.int .i64 2, .int .i64 a, .int .i64 b, .int .i64 c, .string os, .string ot] 38)).alloc (.cells #[.int .i64 0, .int .i64 0, .int .i64 0, .string ⟨#[]⟩] 35)) F bX f r) := H.out.frw ((((Fr.refl (fun _ => False) w).alloc _).alloc _).alloc _) (fun _ _ h => h)
  have HW2 : Hid (∀ i, F i → i < (((w.alloc (.cells #[.pointer (some ⟨bX, 0, none⟩)] 27)).alloc (.cells #[.int .i64 2, .int .i64 a, .int .i64 b, .int .i64 c, .string os, .string ot] 38)).alloc (.cells #[.int .i64 0, .int .i64 0, .int .i64 0, .string ⟨#[]⟩] 35)).heap.size) := fun i hi => by have := HF.out i hi; simp; omega
  go_enter Try.func12, Try.ntmps12
  go_wp2_with fail
  refine (idel_any SW.out HW2.out a).mono ?_
  rintro e w1 ⟨rfl, hr0, hf⟩
  have hr1 : XR bS w1 (fun i => F i ∨ w.heap.size + 3 ≤ i) bX _ _ := hr0.wide (fun i hi => .inl hi)
  clear hr0
  have B := hid (twin_box HF.out hf)
  have HE : Hid (∀ {pa : Nat} (hpa : pa = w.heap.size + 1 + 1) (v0 v1 v2 v3 : Value), _) := fun hpa v0 v1 v2 v3 => twin_end HF.out hr1 hf v0 v1 v2 v3 hpa
  clear hr1 hf SW HW2
  obtain ⟨pa, hpa⟩ : ∃ pa, pa = w.heap.size + 1 + 1 := ⟨_, rfl⟩
  rw [← hpa] at B ⊢
  have HPA := hid hpa
  clear hpa
  have c0 := B.out.a0.c
  have c1 := B.out.a1.c
  have c2 := B.out.a2.c
  have c3 := B.out.a3.c
  have f0 := B.out.a0.f
  have f1 := B.out.a1.f
  have f2 := B.out.a2.f
  have f3 := B.out.a3.f
  go_wp2_with fail
  exact retA Try.results12 rfl rfl B.out.a0.has B.out.a1.has B.out.a2.has B.out.a3.has ⟨rfl, (HE.out HPA.out _ _ _ _).1, (HE.out HPA.out _ _ _ _).2⟩

theorem twin_drop {w : World} {F : Nat → Prop} {f : DocF} {r : Int → Nat} (h : XR bS w F bX f r) (hF : ∀ i, F i → i < w.heap.size) (hr : ∀ k, r k < 4611686018427387904) (o : Stp) (hk : o.kind = 3) :
    Calls Try.prog 12 #[bwV bX, o.val] w fun e w' => e = .returned (doV f r o) ∧ XR bS w' (grow F w w') bX (doF f o) (doR f r o) ∧ Fr F w w' := by
  obtain ⟨kind, a, b, c, os, ot⟩ := o
  simp only at hk
  subst hk
  have hV : doV f r ⟨3, a, b, c, os, ot⟩ = ansV 0 (cnt f a : Int) 0 ⟨#[]⟩ := by simp [doV, doE, doN, doM, doT]
  have hD : doF f ⟨3, a, b, c, os, ot⟩ = dropD f a := by simp [doF]
  have hRR : doR f r ⟨3, a, b, c, os, ot⟩ = r := by simp [doR]
  rw [hV, hD, hRR]
  clear hV hD hRR
  simp only [Stp.val, ansV, bwV]
  have H := hid h
  have HF := hid hF
  have HR := hid hr
  clear h hF hr
  have SW : Hid (XR bS (((w.alloc (.cells #[.pointer (some ⟨bX, 0, none⟩)] 27)).alloc (.cells #[.int .i64 3, .int .i64 a, .int .i64 b, .int .i64 c, .string os, .string ot] 38)).alloc (.cells #[.int .i64 0, .int .i64 0, .int .i64 0, .string ⟨#[]⟩] 35)) F bX f r) := H.out.frw ((((Fr.refl (fun _ => False) w).alloc _).alloc _).alloc _) (fun _ _ h => h)
  have HW2 : Hid (∀ i, F i → i < (((w.alloc (.cells #[.pointer (some ⟨bX, 0, none⟩)] 27)).alloc (.cells #[.int .i64 3, .int .i64 a, .int .i64 b, .int .i64 c, .string os, .string ot] 38)).alloc (.cells #[.int .i64 0, .int .i64 0, .int .i64 0, .string ⟨#[]⟩] 35)).heap.size) := fun i hi => by have := HF.out i hi; simp; omega
  go_enter Try.func12, Try.ntmps12
  go_wp2_with fail
  refine (idrop_any SW.out HW2.out a).mono ?_
  rintro e w1 ⟨rfl, hr0, hf⟩
  have hr1 : XR bS w1 (fun i => F i ∨ w.heap.size + 3 ≤ i) bX _ _ := hr0.wide (fun i hi => .inl hi)
  clear hr0
  have B := hid (twin_box HF.out hf)
  have HE : Hid (∀ {pa : Nat} (hpa : pa = w.heap.size + 1 + 1) (v0 v1 v2 v3 : Value), _) := fun hpa v0 v1 v2 v3 => twin_end HF.out hr1 hf v0 v1 v2 v3 hpa
  clear hr1 hf SW HW2
  obtain ⟨pa, hpa⟩ : ∃ pa, pa = w.heap.size + 1 + 1 := ⟨_, rfl⟩
  rw [← hpa] at B ⊢
  have HPA := hid hpa
  clear hpa
  have c0 := B.out.a0.c
  have c1 := B.out.a1.c
  have c2 := B.out.a2.c
  have c3 := B.out.a3.c
  have f0 := B.out.a0.f
  have f1 := B.out.a1.f
  have f2 := B.out.a2.f
  have f3 := B.out.a3.f
  go_wp2_with fail
  exact retA Try.results12 rfl rfl B.out.a0.has B.out.a1.has B.out.a2.has B.out.a3.has ⟨rfl, (HE.out HPA.out _ _ _ _).1, (HE.out HPA.out _ _ _ _).2⟩

theorem twin_reset {w : World} {F : Nat → Prop} {f : DocF} {r : Int → Nat} (h : XR bS w F bX f r) (hF : ∀ i, F i → i < w.heap.size) (hr : ∀ k, r k < 4611686018427387904) (o : Stp) (hk : o.kind = 10) :
    Calls Try.prog 12 #[bwV bX, o.val] w fun e w' => e = .returned (doV f r o) ∧ XR bS w' (grow F w w') bX (doF f o) (doR f r o) ∧ Fr F w w' := by
  obtain ⟨kind, a, b, c, os, ot⟩ := o
  simp only at hk
  subst hk
  have hV : doV f r ⟨10, a, b, c, os, ot⟩ = ansV 0 (nDocs f : Int) 0 ⟨#[]⟩ := by simp [doV, doE, doN, doM, doT]
  have hD : doF f ⟨10, a, b, c, os, ot⟩ = noD := by simp [doF]
  have hRR : doR f r ⟨10, a, b, c, os, ot⟩ = r := by simp [doR]
  rw [hV, hD, hRR]
  clear hV hD hRR
  simp only [Stp.val, ansV, bwV]
  have H := hid h
  have HF := hid hF
  have HR := hid hr
  clear h hF hr
  have SW : Hid (XR bS (((w.alloc (.cells #[.pointer (some ⟨bX, 0, none⟩)] 27)).alloc (.cells #[.int .i64 10, .int .i64 a, .int .i64 b, .int .i64 c, .string os, .string ot] 38)).alloc (.cells #[.int .i64 0, .int .i64 0, .int .i64 0, .string ⟨#[]⟩] 35)) F bX f r) := H.out.frw ((((Fr.refl (fun _ => False) w).alloc _).alloc _).alloc _) (fun _ _ h => h)
  have HW2 : Hid (∀ i, F i → i < (((w.alloc (.cells #[.pointer (some ⟨bX, 0, none⟩)] 27)).alloc (.cells #[.int .i64 10, .int .i64 a, .int .i64 b, .int .i64 c, .string os, .string ot] 38)).alloc (.cells #[.int .i64 0, .int .i64 0, .int .i64 0, .string ⟨#[]⟩] 35)).heap.size) := fun i hi => by have := HF.out i hi; simp; omega
  go_enter Try.func12, Try.ntmps12
  go_wp2_with fail
  refine (ireset_any SW.out).mono ?_
  rintro e w1 ⟨rfl, hr0, hf⟩
  have hr1 : XR bS w1 (fun i => F i ∨ w.heap.size + 3 ≤ i) bX _ _ := hr0.wide (fun i hi => .inl hi)
  clear hr0
  have B := hid (twin_box HF.out hf)
  have HE : Hid (∀ {pa : Nat} (hpa : pa = w.heap.size + 1 + 1) (v0 v1 v2 v3 : Value), _) := fun hpa v0 v1 v2 v3 => twin_end HF.out hr1 hf v0 v1 v2 v3 hpa
  clear hr1 hf SW HW2
  obtain ⟨pa, hpa⟩ : ∃ pa, pa = w.heap.size + 1 + 1 := ⟨_, rfl⟩
  rw [← hpa] at B ⊢
  have HPA := hid hpa
  clear hpa
  have c0 := B.out.a0.c
  have c1 := B.out.a1.c
  have c2 := B.out.a2.c
  have c3 := B.out.a3.c
  have f0 := B.out.a0.f
  have f1 := B.out.a1.f
  have f2 := B.out.a2.f
  have f3 := B.out.a3.f
  go_wp2_with fail
  exact retA Try.results12 rfl rfl B.out.a0.has B.out.a1.has B.out.a2.has B.out.a3.has ⟨rfl, (HE.out HPA.out _ _ _ _).1, (HE.out HPA.out _ _ _ _).2⟩

def isCh (o : Stp) : Prop := o.kind = 1 ∨ o.kind = 2 ∨ o.kind = 3 ∨ o.kind = 10
theorem twin_any {w : World} {F : Nat → Prop} {f : DocF} {r : Int → Nat} (h : XR bS w F bX f r) (hF : ∀ i, F i → i < w.heap.size) (hr : ∀ k, r k < 4611686018427387904) (o : Stp) (hk : isCh o) :
    Calls Try.prog 12 #[bwV bX, o.val] w fun e w' => e = .returned (doV f r o) ∧ XR bS w' (grow F w w') bX (doF f o) (doR f r o) ∧ Fr F w w' := by
  rcases hk with k | k | k | k
  · exact twin_put h hF hr o k
  · exact twin_del h hF hr o k
  · exact twin_drop h hF hr o k
  · exact twin_reset h hF hr o k
theorem do_same {f : DocF} {r : Int → Nat} {o : Stp} (h : ¬ isCh o) : doF f o = f ∧ doR f r o = r := by
  unfold isCh at h
  have h1 : ¬ o.kind = 1 := fun e => h (.inl e)
  have h2 : ¬ o.kind = 2 := fun e => h (.inr (.inl e))
  have h3 : ¬ o.kind = 3 := fun e => h (.inr (.inr (.inl e)))
  have h4 : ¬ o.kind = 10 := fun e => h (.inr (.inr (.inr e)))
  exact ⟨by simp [doF, h1, h2, h3, h4], by simp [doR, h1]⟩

end Go.Proofs.Qxb6500450a
