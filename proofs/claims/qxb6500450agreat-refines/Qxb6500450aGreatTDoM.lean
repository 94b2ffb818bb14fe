/- The player DoM. -/
import Derived.Test.Qxb6500450aGreatTTop
namespace Go.Proofs.Qxb6500450aGreat
open Go Go.RowKit
set_option maxRecDepth 100000
set_option maxHeartbeats 1600000
set_option linter.unusedSimpArgs false
set_option linter.unusedVariables false
variable {bY bM : Nat}

/-- Behind a call of a player: the state, framed by the answer's box. -/
theorem dom_end {w w1 : World} {G : Nat → Prop} {bV : Nat} {f' : DocF} {r' : Int → Nat} {c1 c2 : Obj} (hG : ∀ i, G i → i < w.heap.size) {n : Nat} (hn : w.heap.size + 1 < n) (hr : VR bY bM w1 (fun i => G i ∨ n ≤ i) bV f' r') (hf : Fr G ((w.alloc c1).alloc c2) w1) (v0 v1 v2 v3 : Value) :
    VR bY bM ((((w1.setCell ⟨w.heap.size + 1, 0, none⟩ v0).setCell ⟨w.heap.size + 1, 1, none⟩ v1).setCell ⟨w.heap.size + 1, 2, none⟩ v2).setCell ⟨w.heap.size + 1, 3, none⟩ v3) (grow G w ((((w1.setCell ⟨w.heap.size + 1, 0, none⟩ v0).setCell ⟨w.heap.size + 1, 1, none⟩ v1).setCell ⟨w.heap.size + 1, 2, none⟩ v2).setCell ⟨w.heap.size + 1, 3, none⟩ v3)) bV f' r' ∧
    Fr G w ((((w1.setCell ⟨w.heap.size + 1, 0, none⟩ v0).setCell ⟨w.heap.size + 1, 1, none⟩ v1).setCell ⟨w.heap.size + 1, 2, none⟩ v2).setCell ⟨w.heap.size + 1, 3, none⟩ v3) := by
  have hb := box_fr w1 (w.heap.size + 1) v0 v1 v2 v3
  generalize (((w1.setCell ⟨w.heap.size + 1, 0, none⟩ v0).setCell ⟨w.heap.size + 1, 1, none⟩ v1).setCell ⟨w.heap.size + 1, 2, none⟩ v2).setCell ⟨w.heap.size + 1, 3, none⟩ v3 = w2 at *
  have hs := hf.size
  simp only [World.size_alloc] at hs
  refine ⟨((hr.frw hb (fun i hi e => ?_)).bound).wide (fun i hi => ?_), (((Fr.refl G w).alloc _).alloc _ |>.trans hf).then hb (fun i hi e => by omega)⟩
  · rcases hi with hi | hi
    · have := hG i hi; omega
    · omega
  · obtain ⟨h1, h2⟩ := hi
    rcases h1 with h1 | h1
    · exact .inl h1
    · exact .inr ⟨by omega, h2⟩

/-- The two boxes of a player. -/
theorem dom_box {w w1 : World} {G : Nat → Prop} (hG : ∀ i, G i → i < w.heap.size) {c : Obj} (hf : Fr G ((w.alloc c).alloc (.cells #[.int .i64 0, .int .i64 0, .int .i64 0, .string ⟨#[]⟩] 41)) w1) : Box w1 (w.heap.size + 1) := by
  have := Box.new (w.alloc c)
  simp only [World.size_alloc] at this
  exact this.fr hf (fun h => by have := hG _ h; omega)

theorem dom_put {w : World} {G : Nat → Prop} {bV : Nat} {f : DocF} {r : Int → Nat} (h : VR bY bM w G bV f r) (hG : ∀ i, G i → i < w.heap.size) (hr : ∀ k, r k < 4611686018427387904) (o : Stp) (hk : o.kind = 1) :
    Calls Tryz.prog 14 #[.pointer (some ⟨bV, 0, none⟩), o.val] w fun e w' => e = .returned (doV f r o) ∧ VR bY bM w' (grow G w w') bV (doF f o) (doR f r o) ∧ Fr G w w' := by
  obtain ⟨kind, a, b, c, os, ot⟩ := o
  simp only at hk
  subst hk
  have hV : doV f r ⟨1, a, b, c, os, ot⟩ = ansV (putE f a b os) 0 0 ⟨#[]⟩ := by simp [doV, doE, doN, doM, doT]
  have hD : doF f ⟨1, a, b, c, os, ot⟩ = putF f a b os := by simp [doF]
  have hRR : doR f r ⟨1, a, b, c, os, ot⟩ = putR f r a b os := by simp [doR]
  rw [hV, hD, hRR]
  clear hV hD hRR
  simp only [Stp.val, ansV]
  have H := hid h
  have HG := hid hG
  have HG2 : Hid (∀ c1 c2 i, G i → i < ((w.alloc c1).alloc c2).heap.size) := fun c1 c2 i hi => by have := hG i hi; simp; omega
  have HR := hid hr
  clear h hG hr
  have fW : ∀ c1 c2, Fr (fun _ => False) w ((w.alloc c1).alloc c2) := fun c1 c2 => ((Fr.refl _ _).alloc _).alloc _
  go_enter Tryz.func14, Tryz.ntmps14
  go_wp2_with fail
  refine (vput_any (H.out.frw (fW _ _) (fun _ _ h => h)) a b os HR.out).mono ?_
  rintro e w1 ⟨rfl, hr0, hf0⟩
  have HZ : Hid (w.heap.size + 1 < w.heap.size + 1 + 1) := by unfold Hid; omega
  have hr1 : VR bY bM w1 (fun i => G i ∨ w.heap.size + 1 + 1 ≤ i) bV _ _ := hr0.wide (fun i hi => by simpa using hi)
  have hf : Fr G _ w1 := hf0
  clear hr0 hf0
  have B := hid (dom_box HG.out hf)
  have HE := hid (@dom_end bY bM w _ G bV _ _ _ _ HG.out _ HZ.out hr1 hf)
  have HPA : Hid (w.heap.size + 1 = w.heap.size + 1) := rfl
  clear hr1 hf
  generalize w.heap.size + 1 = pa at *
  have c0 := B.out.a0.c
  have c1 := B.out.a1.c
  have c2 := B.out.a2.c
  have c3 := B.out.a3.c
  have f0 := B.out.a0.f
  have f1 := B.out.a1.f
  have f2 := B.out.a2.f
  have f3 := B.out.a3.f
  go_wp2_with fail
  exact retA Tryz.results14 rfl rfl B.out.a0.has B.out.a1.has B.out.a2.has B.out.a3.has ⟨rfl, (HE.out _ _ _ _).1, (HE.out _ _ _ _).2⟩

theorem dom_del {w : World} {G : Nat → Prop} {bV : Nat} {f : DocF} {r : Int → Nat} (h : VR bY bM w G bV f r) (hG : ∀ i, G i → i < w.heap.size) (hr : ∀ k, r k < 4611686018427387904) (o : Stp) (hk : o.kind = 2) :
    Calls Tryz.prog 14 #[.pointer (some ⟨bV, 0, none⟩), o.val] w fun e w' => e = .returned (doV f r o) ∧ VR bY bM w' (grow G w w') bV (doF f o) (doR f r o) ∧ Fr G w w' := by
  obtain ⟨kind, a, b, c, os, ot⟩ := o
  simp only at hk
  subst hk
  have hV : doV f r ⟨2, a, b, c, os, ot⟩ = ansV (delE f a) 0 0 ⟨#[]⟩ := by simp [doV, doE, doN, doM, doT]
  have hD : doF f ⟨2, a, b, c, os, ot⟩ = delD f a := by simp [doF]
  have hRR : doR f r ⟨2, a, b, c, os, ot⟩ = r := by simp [doR]
  rw [hV, hD, hRR]
  clear hV hD hRR
  simp only [Stp.val, ansV]
  have H := hid h
  have HG := hid hG
  have HG2 : Hid (∀ c1 c2 i, G i → i < ((w.alloc c1).alloc c2).heap.size) := fun c1 c2 i hi => by have := hG i hi; simp; omega
  have HR := hid hr
  clear h hG hr
  have fW : ∀ c1 c2, Fr (fun _ => False) w ((w.alloc c1).alloc c2) := fun c1 c2 => ((Fr.refl _ _).alloc _).alloc _
  go_enter Tryz.func14, Tryz.ntmps14
  go_wp2_with fail
  refine (vdel_any (H.out.frw (fW _ _) (fun _ _ h => h)) a).mono ?_
  rintro e w1 ⟨rfl, hr0, hf0⟩
  have HZ : Hid (w.heap.size + 1 < w.heap.size + 1 + 1) := by unfold Hid; omega
  have hr1 : VR bY bM w1 (fun i => G i ∨ w.heap.size + 1 + 1 ≤ i) bV _ _ := hr0.wide (fun i hi => by simpa using hi)
  have hf : Fr G _ w1 := hf0
  clear hr0 hf0
  have B := hid (dom_box HG.out hf)
  have HE := hid (@dom_end bY bM w _ G bV _ _ _ _ HG.out _ HZ.out hr1 hf)
  have HPA : Hid (w.heap.size + 1 = w.heap.size + 1) := rfl
  clear hr1 hf
  generalize w.heap.size + 1 = pa at *
  have c0 := B.out.a0.c
  have c1 := B.out.a1.c
  have c2 := B.out.a2.c
  have c3 := B.out.a3.c
  have f0 := B.out.a0.f
  have f1 := B.out.a1.f
  have f2 := B.out.a2.f
  have f3 := B.out.a3.f
  go_wp2_with fail
  exact retA Tryz.results14 rfl rfl B.out.a0.has B.out.a1.has B.out.a2.has B.out.a3.has ⟨rfl, (HE.out _ _ _ _).1, (HE.out _ _ _ _).2⟩

theorem dom_drop {w : World} {G : Nat → Prop} {bV : Nat} {f : DocF} {r : Int → Nat} (h : VR bY bM w G bV f r) (hG : ∀ i, G i → i < w.heap.size) (hr : ∀ k, r k < 4611686018427387904) (o : Stp) (hk : o.kind = 3) :
    Calls Tryz.prog 14 #[.pointer (some ⟨bV, 0, none⟩), o.val] w fun e w' => e = .returned (doV f r o) ∧ VR bY bM w' (grow G w w') bV (doF f o) (doR f r o) ∧ Fr G w w' := by
  obtain ⟨kind, a, b, c, os, ot⟩ := o
  simp only at hk
  subst hk
  have hV : doV f r ⟨3, a, b, c, os, ot⟩ = ansV 0 (cnt f a : Int) 0 ⟨#[]⟩ := by simp [doV, doE, doN, doM, doT]
  have hD : doF f ⟨3, a, b, c, os, ot⟩ = dropD f a := by simp [doF]
  have hRR : doR f r ⟨3, a, b, c, os, ot⟩ = r := by simp [doR]
  rw [hV, hD, hRR]
  clear hV hD hRR
  simp only [Stp.val, ansV]
  have H := hid h
  have HG := hid hG
  have HG2 : Hid (∀ c1 c2 i, G i → i < ((w.alloc c1).alloc c2).heap.size) := fun c1 c2 i hi => by have := hG i hi; simp; omega
  have HR := hid hr
  clear h hG hr
  have fW : ∀ c1 c2, Fr (fun _ => False) w ((w.alloc c1).alloc c2) := fun c1 c2 => ((Fr.refl _ _).alloc _).alloc _
  go_enter Tryz.func14, Tryz.ntmps14
  go_wp2_with fail
  refine (vdrop_any (H.out.frw (fW _ _) (fun _ _ h => h)) a).mono ?_
  rintro e w1 ⟨rfl, hr0, hf0⟩
  have HZ : Hid (w.heap.size + 1 < w.heap.size + 1 + 1) := by unfold Hid; omega
  have hr1 : VR bY bM w1 (fun i => G i ∨ w.heap.size + 1 + 1 ≤ i) bV _ _ := hr0.wide (fun i hi => by simpa using hi)
  have hf : Fr G _ w1 := hf0
  clear hr0 hf0
  have B := hid (dom_box HG.out hf)
  have HE := hid (@dom_end bY bM w _ G bV _ _ _ _ HG.out _ HZ.out hr1 hf)
  have HPA : Hid (w.heap.size + 1 = w.heap.size + 1) := rfl
  clear hr1 hf
  generalize w.heap.size + 1 = pa at *
  have c0 := B.out.a0.c
  have c1 := B.out.a1.c
  have c2 := B.out.a2.c
  have c3 := B.out.a3.c
  have f0 := B.out.a0.f
  have f1 := B.out.a1.f
  have f2 := B.out.a2.f
  have f3 := B.out.a3.f
  go_wp2_with fail
  exact retA Tryz.results14 rfl rfl B.out.a0.has B.out.a1.has B.out.a2.has B.out.a3.has ⟨rfl, (HE.out _ _ _ _).1, (HE.out _ _ _ _).2⟩

theorem dom_reset {w : World} {G : Nat → Prop} {bV : Nat} {f : DocF} {r : Int → Nat} (h : VR bY bM w G bV f r) (hG : ∀ i, G i → i < w.heap.size) (hr : ∀ k, r k < 4611686018427387904) (o : Stp) (hk : o.kind = 10) :
    Calls Tryz.prog 14 #[.pointer (some ⟨bV, 0, none⟩), o.val] w fun e w' => e = .returned (doV f r o) ∧ VR bY bM w' (grow G w w') bV (doF f o) (doR f r o) ∧ Fr G w w' := by
  obtain ⟨kind, a, b, c, os, ot⟩ := o
  simp only at hk
  subst hk
  have hV : doV f r ⟨10, a, b, c, os, ot⟩ = ansV 0 (nDocs f : Int) 0 ⟨#[]⟩ := by simp [doV, doE, doN, doM, doT]
  have hD : doF f ⟨10, a, b, c, os, ot⟩ = noD := by simp [doF]
  have hRR : doR f r ⟨10, a, b, c, os, ot⟩ = r := by simp [doR]
  rw [hV, hD, hRR]
  clear hV hD hRR
  simp only [Stp.val, ansV]
  have H := hid h
  have HG := hid hG
  have HG2 : Hid (∀ c1 c2 i, G i → i < ((w.alloc c1).alloc c2).heap.size) := fun c1 c2 i hi => by have := hG i hi; simp; omega
  have HR := hid hr
  clear h hG hr
  have fW : ∀ c1 c2, Fr (fun _ => False) w ((w.alloc c1).alloc c2) := fun c1 c2 => ((Fr.refl _ _).alloc _).alloc _
  go_enter Tryz.func14, Tryz.ntmps14
  go_wp2_with fail
  refine (vreset_any (H.out.frw (fW _ _) (fun _ _ h => h))).mono ?_
  rintro e w1 ⟨rfl, hr0, hf0⟩
  have HZ : Hid (w.heap.size + 1 < w.heap.size + 1 + 1) := by unfold Hid; omega
  have hr1 : VR bY bM w1 (fun i => G i ∨ w.heap.size + 1 + 1 ≤ i) bV _ _ := hr0.wide (fun i hi => by simpa using hi)
  have hf : Fr G _ w1 := hf0
  clear hr0 hf0
  have B := hid (dom_box HG.out hf)
  have HE := hid (@dom_end bY bM w _ G bV _ _ _ _ HG.out _ HZ.out hr1 hf)
  have HPA : Hid (w.heap.size + 1 = w.heap.size + 1) := rfl
  clear hr1 hf
  generalize w.heap.size + 1 = pa at *
  have c0 := B.out.a0.c
  have c1 := B.out.a1.c
  have c2 := B.out.a2.c
  have c3 := B.out.a3.c
  have f0 := B.out.a0.f
  have f1 := B.out.a1.f
  have f2 := B.out.a2.f
  have f3 := B.out.a3.f
  go_wp2_with fail
  exact retA Tryz.results14 rfl rfl B.out.a0.has B.out.a1.has B.out.a2.has B.out.a3.has ⟨rfl, (HE.out _ _ _ _).1, (HE.out _ _ _ _).2⟩

theorem dom_show {w : World} {G : Nat → Prop} {bV : Nat} {f : DocF} {r : Int → Nat} (h : VR bY bM w G bV f r) (hG : ∀ i, G i → i < w.heap.size) (hr : ∀ k, r k < 4611686018427387904) (o : Stp) (hk : o.kind = 7) :
    Calls Tryz.prog 14 #[.pointer (some ⟨bV, 0, none⟩), o.val] w fun e w' => e = .returned (doV f r o) ∧ VR bY bM w' (grow G w w') bV (doF f o) (doR f r o) ∧ Fr G w w' := by
  obtain ⟨kind, a, b, c, os, ot⟩ := o
  simp only at hk
  subst hk
  have hV : doV f r ⟨7, a, b, c, os, ot⟩ = ansV 0 0 0 (bs (showI f r)) := by simp [doV, doE, doN, doM, doT]
  have hD : doF f ⟨7, a, b, c, os, ot⟩ = f := by simp [doF]
  have hRR : doR f r ⟨7, a, b, c, os, ot⟩ = r := by simp [doR]
  rw [hV, hD, hRR]
  clear hV hD hRR
  simp only [Stp.val, ansV]
  have H := hid h
  have HG := hid hG
  have HG2 : Hid (∀ c1 c2 i, G i → i < ((w.alloc c1).alloc c2).heap.size) := fun c1 c2 i hi => by have := hG i hi; simp; omega
  have HR := hid hr
  clear h hG hr
  have fW : ∀ c1 c2, Fr (fun _ => False) w ((w.alloc c1).alloc c2) := fun c1 c2 => ((Fr.refl _ _).alloc _).alloc _
  go_enter Tryz.func14, Tryz.ntmps14
  go_wp2_with fail
  refine (vshow_any (H.out.frw (fW _ _) (fun _ _ h => h)) HR.out).mono ?_
  rintro e w1 ⟨rfl, hr0, hf0⟩
  have HZ : Hid (w.heap.size + 1 < w.heap.size + 1 + 1) := by unfold Hid; omega
  have hr1 : VR bY bM w1 (fun i => G i ∨ w.heap.size + 1 + 1 ≤ i) bV _ _ := hr0.wide (fun i hi => .inl hi)
  have hf : Fr G _ w1 := hf0
  clear hr0 hf0
  have B := hid (dom_box HG.out hf)
  have HE := hid (@dom_end bY bM w _ G bV _ _ _ _ HG.out _ HZ.out hr1 hf)
  have HPA : Hid (w.heap.size + 1 = w.heap.size + 1) := rfl
  clear hr1 hf
  generalize w.heap.size + 1 = pa at *
  have c0 := B.out.a0.c
  have c1 := B.out.a1.c
  have c2 := B.out.a2.c
  have c3 := B.out.a3.c
  have f0 := B.out.a0.f
  have f1 := B.out.a1.f
  have f2 := B.out.a2.f
  have f3 := B.out.a3.f
  go_wp2_with fail
  exact retA Tryz.results14 rfl rfl B.out.a0.has B.out.a1.has B.out.a2.has B.out.a3.has ⟨rfl, (HE.out _ _ _ _).1, (HE.out _ _ _ _).2⟩

theorem dom_len {w : World} {G : Nat → Prop} {bV : Nat} {f : DocF} {r : Int → Nat} (h : VR bY bM w G bV f r) (hG : ∀ i, G i → i < w.heap.size) (hr : ∀ k, r k < 4611686018427387904) (o : Stp) (hk : o.kind = 9) :
    Calls Tryz.prog 14 #[.pointer (some ⟨bV, 0, none⟩), o.val] w fun e w' => e = .returned (doV f r o) ∧ VR bY bM w' (grow G w w') bV (doF f o) (doR f r o) ∧ Fr G w w' := by
  obtain ⟨kind, a, b, c, os, ot⟩ := o
  simp only at hk
  subst hk
  have hV : doV f r ⟨9, a, b, c, os, ot⟩ = ansV 0 (nDocs f : Int) 0 ⟨#[]⟩ := by simp [doV, doE, doN, doM, doT]
  have hD : doF f ⟨9, a, b, c, os, ot⟩ = f := by simp [doF]
  have hRR : doR f r ⟨9, a, b, c, os, ot⟩ = r := by simp [doR]
  rw [hV, hD, hRR]
  clear hV hD hRR
  simp only [Stp.val, ansV]
  have H := hid h
  have HG := hid hG
  have HG2 : Hid (∀ c1 c2 i, G i → i < ((w.alloc c1).alloc c2).heap.size) := fun c1 c2 i hi => by have := hG i hi; simp; omega
  have HR := hid hr
  clear h hG hr
  have fW : ∀ c1 c2, Fr (fun _ => False) w ((w.alloc c1).alloc c2) := fun c1 c2 => ((Fr.refl _ _).alloc _).alloc _
  go_enter Tryz.func14, Tryz.ntmps14
  go_wp2_with fail
  refine (vlen_any (H.out.frw (fW _ _) (fun _ _ h => h))).mono ?_
  rintro e w1 ⟨rfl, hr0, hf0⟩
  have HZ : Hid (w.heap.size + 1 < w.heap.size + 1 + 1) := by unfold Hid; omega
  have hr1 : VR bY bM w1 (fun i => G i ∨ w.heap.size + 1 + 1 ≤ i) bV _ _ := hr0.wide (fun i hi => .inl hi)
  have hf : Fr G _ w1 := hf0
  clear hr0 hf0
  have B := hid (dom_box HG.out hf)
  have HE := hid (@dom_end bY bM w _ G bV _ _ _ _ HG.out _ HZ.out hr1 hf)
  have HPA : Hid (w.heap.size + 1 = w.heap.size + 1) := rfl
  clear hr1 hf
  generalize w.heap.size + 1 = pa at *
  have c0 := B.out.a0.c
  have c1 := B.out.a1.c
  have c2 := B.out.a2.c
  have c3 := B.out.a3.c
  have f0 := B.out.a0.f
  have f1 := B.out.a1.f
  have f2 := B.out.a2.f
  have f3 := B.out.a3.f
  go_wp2_with fail
  exact retA Tryz.results14 rfl rfl B.out.a0.has B.out.a1.has B.out.a2.has B.out.a3.has ⟨rfl, (HE.out _ _ _ _).1, (HE.out _ _ _ _).2⟩

theorem dom_find {w : World} {G : Nat → Prop} {bV : Nat} {f : DocF} {r : Int → Nat} (h : VR bY bM w G bV f r) (hG : ∀ i, G i → i < w.heap.size) (hr : ∀ k, r k < 4611686018427387904) (o : Stp) (hk : o.kind = 4) :
    Calls Tryz.prog 14 #[.pointer (some ⟨bV, 0, none⟩), o.val] w fun e w' => e = .returned (doV f r o) ∧ VR bY bM w' (grow G w w') bV (doF f o) (doR f r o) ∧ Fr G w w' := by
  obtain ⟨kind, a, b, c, os, ot⟩ := o
  simp only at hk
  subst hk
  have hV : doV f r ⟨4, a, b, c, os, ot⟩ = ansV (findE a os ot) ((findL f a os ot).length : Int) 0 (bs (ints (findL f a os ot))) := by simp [doV, doE, doN, doM, doT]
  have hD : doF f ⟨4, a, b, c, os, ot⟩ = f := by simp [doF]
  have hRR : doR f r ⟨4, a, b, c, os, ot⟩ = r := by simp [doR]
  rw [hV, hD, hRR]
  clear hV hD hRR
  simp only [Stp.val, ansV]
  have H := hid h
  have HG := hid hG
  have HG2 : Hid (∀ c1 c2 i, G i → i < ((w.alloc c1).alloc c2).heap.size) := fun c1 c2 i hi => by have := hG i hi; simp; omega
  have HR := hid hr
  clear h hG hr
  have fW : ∀ c1 c2, Fr (fun _ => False) w ((w.alloc c1).alloc c2) := fun c1 c2 => ((Fr.refl _ _).alloc _).alloc _
  go_enter Tryz.func14, Tryz.ntmps14
  go_wp2_with fail
  refine (vfind_any (H.out.frw (fW _ _) (fun _ _ h => h)) (HG2.out _ _) a os ot).mono ?_
  rintro e w1 ⟨v, rfl, ow, hnl, hra, hfa⟩
  have HFA := hid hfa
  have OW := hid ow
  have NL := hid hnl
  have HRA := hid hra
  clear hfa ow hnl hra
  go_wp2_with fail
  have hl := ids_law OW.out (findL_i64 f a os ot) NL.out (findE a os ot) (by have := findL_le f a os ot; omega)
  simp only [ansV] at hl
  refine hl.mono ?_
  clear hl
  rintro e w2 ⟨rfl, hfb⟩
  have hf0 := HFA.out.then hfb (fun i hi h => by simp only [World.size_alloc] at hi h; omega)
  have hr0 := HRA.out.frw hfb (fun i hi h => by have := HG.out i hi; simp only [World.size_alloc] at h; omega)
  clear hfb HFA OW NL HRA
  have HZ : Hid (w.heap.size + 1 < w.heap.size + 1 + 1) := by unfold Hid; omega
  have hr1 : VR bY bM w2 (fun i => G i ∨ w.heap.size + 1 + 1 ≤ i) bV f r := hr0.wide (fun i hi => .inl hi)
  have hf : Fr G _ w2 := hf0
  clear hf0 hr0
  have B := hid (dom_box HG.out hf)
  have HE := hid (@dom_end bY bM w _ G bV _ _ _ _ HG.out _ HZ.out hr1 hf)
  have HPA : Hid (w.heap.size + 1 = w.heap.size + 1) := rfl
  clear hr1 hf
  generalize w.heap.size + 1 = pa at *
  have c0 := B.out.a0.c
  have c1 := B.out.a1.c
  have c2 := B.out.a2.c
  have c3 := B.out.a3.c
  have f0 := B.out.a0.f
  have f1 := B.out.a1.f
  have f2 := B.out.a2.f
  have f3 := B.out.a3.f
  go_wp2_with fail
  exact retA Tryz.results14 rfl rfl B.out.a0.has B.out.a1.has B.out.a2.has B.out.a3.has ⟨rfl, (HE.out _ _ _ _).1, (HE.out _ _ _ _).2⟩

theorem dom_groups {w : World} {G : Nat → Prop} {bV : Nat} {f : DocF} {r : Int → Nat} (h : VR bY bM w G bV f r) (hG : ∀ i, G i → i < w.heap.size) (hr : ∀ k, r k < 4611686018427387904) (o : Stp) (hk : o.kind = 5) :
    Calls Tryz.prog 14 #[.pointer (some ⟨bV, 0, none⟩), o.val] w fun e w' => e = .returned (doV f r o) ∧ VR bY bM w' (grow G w w') bV (doF f o) (doR f r o) ∧ Fr G w w' := by
  obtain ⟨kind, a, b, c, os, ot⟩ := o
  simp only at hk
  subst hk
  have hV : doV f r ⟨5, a, b, c, os, ot⟩ = ansV (grpsE os) ((grpsL f os).length : Int) 0 (bs (cnts (grpsL f os))) := by simp [doV, doE, doN, doM, doT]
  have hD : doF f ⟨5, a, b, c, os, ot⟩ = f := by simp [doF]
  have hRR : doR f r ⟨5, a, b, c, os, ot⟩ = r := by simp [doR]
  rw [hV, hD, hRR]
  clear hV hD hRR
  simp only [Stp.val, ansV]
  have H := hid h
  have HG := hid hG
  have HG2 : Hid (∀ c1 c2 i, G i → i < ((w.alloc c1).alloc c2).heap.size) := fun c1 c2 i hi => by have := hG i hi; simp; omega
  have HR := hid hr
  clear h hG hr
  have fW : ∀ c1 c2, Fr (fun _ => False) w ((w.alloc c1).alloc c2) := fun c1 c2 => ((Fr.refl _ _).alloc _).alloc _
  go_enter Tryz.func14, Tryz.ntmps14
  go_wp2_with fail
  refine (vgroups_any (H.out.frw (fW _ _) (fun _ _ h => h)) (HG2.out _ _) os).mono ?_
  rintro e w1 ⟨v, rfl, ow, hnl, hra, hfa⟩
  have HFA := hid hfa
  have OW := hid ow
  have NL := hid hnl
  have HRA := hid hra
  clear hfa ow hnl hra
  go_wp2_with fail
  have hl := pairs_law OW.out (grpsL_i64 f os) NL.out (grpsE os) (by have := grpsL_len f os; omega)
  simp only [ansV] at hl
  refine hl.mono ?_
  clear hl
  rintro e w2 ⟨rfl, hfb⟩
  have hf0 := HFA.out.then hfb (fun i hi h => by simp only [World.size_alloc] at hi h; omega)
  have hr0 := HRA.out.frw hfb (fun i hi h => by have := HG.out i hi; simp only [World.size_alloc] at h; omega)
  clear hfb HFA OW NL HRA
  have HZ : Hid (w.heap.size + 1 < w.heap.size + 1 + 1) := by unfold Hid; omega
  have hr1 : VR bY bM w2 (fun i => G i ∨ w.heap.size + 1 + 1 ≤ i) bV f r := hr0.wide (fun i hi => .inl hi)
  have hf : Fr G _ w2 := hf0
  clear hf0 hr0
  have B := hid (dom_box HG.out hf)
  have HE := hid (@dom_end bY bM w _ G bV _ _ _ _ HG.out _ HZ.out hr1 hf)
  have HPA : Hid (w.heap.size + 1 = w.heap.size + 1) := rfl
  clear hr1 hf
  generalize w.heap.size + 1 = pa at *
  have c0 := B.out.a0.c
  have c1 := B.out.a1.c
  have c2 := B.out.a2.c
  have c3 := B.out.a3.c
  have f0 := B.out.a0.f
  have f1 := B.out.a1.f
  have f2 := B.out.a2.f
  have f3 := B.out.a3.f
  go_wp2_with fail
  exact retA Tryz.results14 rfl rfl B.out.a0.has B.out.a1.has B.out.a2.has B.out.a3.has ⟨rfl, (HE.out _ _ _ _).1, (HE.out _ _ _ _).2⟩

theorem dom_top {w : World} {G : Nat → Prop} {bV : Nat} {f : DocF} {r : Int → Nat} (h : VR bY bM w G bV f r) (hG : ∀ i, G i → i < w.heap.size) (hr : ∀ k, r k < 4611686018427387904) (o : Stp) (hk : o.kind = 6) :
    Calls Tryz.prog 14 #[.pointer (some ⟨bV, 0, none⟩), o.val] w fun e w' => e = .returned (doV f r o) ∧ VR bY bM w' (grow G w w') bV (doF f o) (doR f r o) ∧ Fr G w w' := by
  obtain ⟨kind, a, b, c, os, ot⟩ := o
  simp only at hk
  subst hk
  have hV : doV f r ⟨6, a, b, c, os, ot⟩ = ansV (topE a) ((topL f a).length : Int) 0 (bs (strs (topL f a))) := by simp [doV, doE, doN, doM, doT]
  have hD : doF f ⟨6, a, b, c, os, ot⟩ = f := by simp [doF]
  have hRR : doR f r ⟨6, a, b, c, os, ot⟩ = r := by simp [doR]
  rw [hV, hD, hRR]
  clear hV hD hRR
  simp only [Stp.val, ansV]
  have H := hid h
  have HG := hid hG
  have HG2 : Hid (∀ c1 c2 i, G i → i < ((w.alloc c1).alloc c2).heap.size) := fun c1 c2 i hi => by have := hG i hi; simp; omega
  have HR := hid hr
  clear h hG hr
  have fW : ∀ c1 c2, Fr (fun _ => False) w ((w.alloc c1).alloc c2) := fun c1 c2 => ((Fr.refl _ _).alloc _).alloc _
  go_enter Tryz.func14, Tryz.ntmps14
  go_wp2_with fail
  refine (vtop_any (H.out.frw (fW _ _) (fun _ _ h => h)) (HG2.out _ _) a).mono ?_
  rintro e w1 ⟨v, rfl, ow, hnl, hra, hfa⟩
  have HFA := hid hfa
  have OW := hid ow
  have NL := hid hnl
  have HRA := hid hra
  clear hfa ow hnl hra
  go_wp2_with fail
  have hl := words_law OW.out (fun x hx => (wordsOf_size H.out.ok (topL_mem H.out.ok hx)).2) NL.out (topE a) (by have := topL_len H.out.ok a; omega)
  simp only [ansV] at hl
  refine hl.mono ?_
  clear hl
  rintro e w2 ⟨rfl, hfb⟩
  have hf0 := HFA.out.then hfb (fun i hi h => by simp only [World.size_alloc] at hi h; omega)
  have hr0 := HRA.out.frw hfb (fun i hi h => by have := HG.out i hi; simp only [World.size_alloc] at h; omega)
  clear hfb HFA OW NL HRA
  have HZ : Hid (w.heap.size + 1 < w.heap.size + 1 + 1) := by unfold Hid; omega
  have hr1 : VR bY bM w2 (fun i => G i ∨ w.heap.size + 1 + 1 ≤ i) bV f r := hr0.wide (fun i hi => .inl hi)
  have hf : Fr G _ w2 := hf0
  clear hf0 hr0
  have B := hid (dom_box HG.out hf)
  have HE := hid (@dom_end bY bM w _ G bV _ _ _ _ HG.out _ HZ.out hr1 hf)
  have HPA : Hid (w.heap.size + 1 = w.heap.size + 1) := rfl
  clear hr1 hf
  generalize w.heap.size + 1 = pa at *
  have c0 := B.out.a0.c
  have c1 := B.out.a1.c
  have c2 := B.out.a2.c
  have c3 := B.out.a3.c
  have f0 := B.out.a0.f
  have f1 := B.out.a1.f
  have f2 := B.out.a2.f
  have f3 := B.out.a3.f
  go_wp2_with fail
  exact retA Tryz.results14 rfl rfl B.out.a0.has B.out.a1.has B.out.a2.has B.out.a3.has ⟨rfl, (HE.out _ _ _ _).1, (HE.out _ _ _ _).2⟩

theorem dom_any {w : World} {G : Nat → Prop} {bV : Nat} {f : DocF} {r : Int → Nat} (h : VR bY bM w G bV f r) (hG : ∀ i, G i → i < w.heap.size) (hr : ∀ k, r k < 4611686018427387904) (o : Stp) :
    Calls Tryz.prog 14 #[.pointer (some ⟨bV, 0, none⟩), o.val] w fun e w' => e = .returned (doV f r o) ∧ VR bY bM w' (grow G w w') bV (doF f o) (doR f r o) ∧ Fr G w w' := by
  by_cases k1 : o.kind = 1
  · exact dom_put h hG hr o k1
  by_cases k2 : o.kind = 2
  · exact dom_del h hG hr o k2
  by_cases k3 : o.kind = 3
  · exact dom_drop h hG hr o k3
  by_cases k4 : o.kind = 4
  · exact dom_find h hG hr o k4
  by_cases k5 : o.kind = 5
  · exact dom_groups h hG hr o k5
  by_cases k6 : o.kind = 6
  · exact dom_top h hG hr o k6
  by_cases k7 : o.kind = 7
  · exact dom_show h hG hr o k7
  by_cases k9 : o.kind = 9
  · exact dom_len h hG hr o k9
  by_cases k10 : o.kind = 10
  · exact dom_reset h hG hr o k10
  have hV : doV f r o = ansV 0 0 0 ⟨#[]⟩ := by simp [doV, doE, doN, doM, doT, k1, k2, k3, k4, k5, k6, k7, k9, k10]
  have hD : doF f o = f := by simp [doF, k1, k2, k3, k4, k5, k6, k7, k9, k10]
  have hRR : doR f r o = r := by simp [doR, k1]
  rw [hV, hD, hRR]
  clear hV hD hRR
  obtain ⟨kind, a, b, c, os, ot⟩ := o
  simp only at k1 k2 k3 k4 k5 k6 k7 k9 k10
  simp only [Stp.val]
  have j1 : (kind == 1) = false := beq_eq_false_iff_ne.2 k1
  have j2 : (kind == 2) = false := beq_eq_false_iff_ne.2 k2
  have j3 : (kind == 3) = false := beq_eq_false_iff_ne.2 k3
  have j4 : (kind == 4) = false := beq_eq_false_iff_ne.2 k4
  have j5 : (kind == 5) = false := beq_eq_false_iff_ne.2 k5
  have j6 : (kind == 6) = false := beq_eq_false_iff_ne.2 k6
  have j7 : (kind == 7) = false := beq_eq_false_iff_ne.2 k7
  have j9 : (kind == 9) = false := beq_eq_false_iff_ne.2 k9
  have j10 : (kind == 10) = false := beq_eq_false_iff_ne.2 k10
  clear k1 k2 k3 k4 k5 k6 k7 k9 k10
  go_enter Tryz.func14, Tryz.ntmps14
  go_wp2_with fail
  refine bodyPost_ret (v := ansV 0 0 0 ⟨#[]⟩) (by simp [results, Tryz.results14, go_sem, ansV]) rfl ⟨rfl, ?_, ?_⟩
  · exact (h.frw (((Fr.refl (fun _ => False) _).alloc _).alloc _) (fun _ _ h => h)).wide (fun i hi => .inl hi)
  · exact ((Fr.refl _ _).alloc _).alloc _

end Go.Proofs.Qxb6500450aGreat
