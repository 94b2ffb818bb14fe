/- The player Do. -/
import Derived.Test.Qxb6500450aGreatQLaw
import Derived.Test.Qxb6500450aGreatQPut
namespace Go.Proofs.Qxb6500450aGreat
open Go Go.RowKit
set_option maxRecDepth 100000
set_option maxHeartbeats 1600000
set_option linter.unusedSimpArgs false
set_option linter.unusedVariables false
variable {bS bX : Nat}

/-- What a step answers, and the state behind it. -/
def doE (f : DocF) (o : Stp) : Int := if o.kind = 1 then putE f o.a o.b o.s else if o.kind = 2 then delE f o.a else if o.kind = 4 then findE o.a o.s o.t else if o.kind = 5 then grpsE o.s else if o.kind = 6 then topE o.a else 0
def doN (f : DocF) (o : Stp) : Int := if o.kind = 3 then (cnt f o.a : Int) else if o.kind = 4 then ((findL f o.a o.s o.t).length : Int) else if o.kind = 5 then ((grpsL f o.s).length : Int) else if o.kind = 6 then ((topL f o.a).length : Int) else if o.kind = 9 then (nDocs f : Int) else if o.kind = 10 then (nDocs f : Int) else 0
def doM (f : DocF) (o : Stp) : Int := 0
def doT (f : DocF) (r : Int → Nat) (o : Stp) : ByteArray := if o.kind = 4 then bs (ints (findL f o.a o.s o.t)) else if o.kind = 5 then bs (cnts (grpsL f o.s)) else if o.kind = 6 then bs (strs (topL f o.a)) else if o.kind = 7 then bs (showI f r) else ⟨#[]⟩
def doF (f : DocF) (o : Stp) : DocF := if o.kind = 1 then putF f o.a o.b o.s else if o.kind = 2 then delD f o.a else if o.kind = 3 then dropD f o.a else if o.kind = 10 then noD else f
def doR (f : DocF) (r : Int → Nat) (o : Stp) : Int → Nat := if o.kind = 1 then putR f r o.a o.b o.s else r
def doV (f : DocF) (r : Int → Nat) (o : Stp) : Value := ansV (doE f o) (doN f o) (doM f o) (doT f r o)
/-- F and what was made between w and w'. -/
def grow (F : Nat → Prop) (w w' : World) : Nat → Prop := fun i => F i ∨ (w.heap.size ≤ i ∧ i < w'.heap.size)
theorem fr_of_eqX (S : Nat → Prop) {a b : World} (h : b = a) : Fr S a b := h ▸ Fr.refl S b
theorem topL_len {f : DocF} (ok : OkF f) (k : Int) : (topL f k).length ≤ 117 := by
  unfold topL
  split
  · have h1 := rankL_len ok
    have h2 := wordsOf_len ok
    rw [List.length_take]
    omega
  · simp
theorem topL_mem {f : DocF} (ok : OkF f) {k : Int} {x : ByteArray} (h : x ∈ topL f k) : x ∈ wordsOf f := by
  unfold topL at h
  split at h
  · exact (rankL_mem ok x).1 (List.mem_of_mem_take h)
  · simp at h
theorem grpsL_len (f : DocF) (x : ByteArray) : (grpsL f x).length ≤ 3 := by
  unfold grpsL
  split
  · simp
  · exact grpK_len f x 3
theorem grpK_mem {f : DocF} {x : ByteArray} {k : Nat} {d : C2} (h : d ∈ grpK f x k) : ∃ j : Nat, j < k ∧ d = ((j : Int), (tlK f ((j : Int), x) : Int)) ∧ tlK f ((j : Int), x) ≠ 0 := by
  unfold grpK at h
  obtain ⟨j, hj, he⟩ := List.mem_filterMap.1 h
  refine ⟨j, List.mem_range.1 hj, ?_⟩
  by_cases c : tlK f ((j : Int), x) = 0
  · rw [if_pos c] at he; cases he
  · rw [if_neg c] at he; cases he; exact ⟨rfl, c⟩
theorem grpsL_i64 (f : DocF) (x : ByteArray) : ∀ d ∈ grpsL f x, I64 d.1 ∧ I64 d.2 := by
  intro d hd
  unfold grpsL at hd
  split at hd
  · simp at hd
  · obtain ⟨j, hj, rfl, _⟩ := grpK_mem hd
    have := tlK_le f ((j : Int), x)
    unfold I64
    simp only
    omega

/-- Behind a call of a player: the state, framed by the answer's box. -/
theorem do_end {w w1 : World} {F : Nat → Prop} {bQ : Nat} {f' : DocF} {r' : Int → Nat} {c1 c2 : Obj} (hF : ∀ i, F i → i < w.heap.size) {n : Nat} (hn : w.heap.size + 1 < n) (hr : QR bX bS w1 (fun i => F i ∨ n ≤ i) bQ f' r') (hf : Fr F ((w.alloc c1).alloc c2) w1) (v0 v1 v2 v3 : Value) :
    QR bX bS ((((w1.setCell ⟨w.heap.size + 1, 0, none⟩ v0).setCell ⟨w.heap.size + 1, 1, none⟩ v1).setCell ⟨w.heap.size + 1, 2, none⟩ v2).setCell ⟨w.heap.size + 1, 3, none⟩ v3) (grow F w ((((w1.setCell ⟨w.heap.size + 1, 0, none⟩ v0).setCell ⟨w.heap.size + 1, 1, none⟩ v1).setCell ⟨w.heap.size + 1, 2, none⟩ v2).setCell ⟨w.heap.size + 1, 3, none⟩ v3)) bQ f' r' ∧
    Fr F w ((((w1.setCell ⟨w.heap.size + 1, 0, none⟩ v0).setCell ⟨w.heap.size + 1, 1, none⟩ v1).setCell ⟨w.heap.size + 1, 2, none⟩ v2).setCell ⟨w.heap.size + 1, 3, none⟩ v3) := by
  have hb := box_fr w1 (w.heap.size + 1) v0 v1 v2 v3
  generalize (((w1.setCell ⟨w.heap.size + 1, 0, none⟩ v0).setCell ⟨w.heap.size + 1, 1, none⟩ v1).setCell ⟨w.heap.size + 1, 2, none⟩ v2).setCell ⟨w.heap.size + 1, 3, none⟩ v3 = w2 at *
  have hs := hf.size
  simp only [World.size_alloc] at hs
  refine ⟨((hr.frw hb (fun i hi e => ?_)).bound).wide (fun i hi => ?_), (((Fr.refl F w).alloc _).alloc _ |>.trans hf).then hb (fun i hi e => by omega)⟩
  · rcases hi with hi | hi
    · have := hF i hi; omega
    · omega
  · obtain ⟨h1, h2⟩ := hi
    rcases h1 with h1 | h1
    · exact .inl h1
    · exact .inr ⟨by omega, h2⟩

/-- The two boxes of a player. -/
theorem do_box {w w1 : World} {F : Nat → Prop} (hF : ∀ i, F i → i < w.heap.size) {c : Obj} (hf : Fr F ((w.alloc c).alloc (.cells #[.int .i64 0, .int .i64 0, .int .i64 0, .string ⟨#[]⟩] 41)) w1) : Box w1 (w.heap.size + 1) := by
  have := Box.new (w.alloc c)
  simp only [World.size_alloc] at this
  exact this.fr hf (fun h => by have := hF _ h; omega)

theorem do_put {w : World} {F : Nat → Prop} {bQ : Nat} {f : DocF} {r : Int → Nat} (h : QR bX bS w F bQ f r) (hF : ∀ i, F i → i < w.heap.size) (hr : ∀ k, r k < 4611686018427387904) (o : Stp) (hk : o.kind = 1) :
    Calls Tryz.prog 13 #[.pointer (some ⟨bQ, 0, none⟩), o.val] w fun e w' => e = .returned (doV f r o) ∧ QR bX bS w' (grow F w w') bQ (doF f o) (doR f r o) ∧ Fr F w w' := by
  obtain ⟨kind, a, b, c, os, ot⟩ := o
  simp only at hk
  subst hk
  have hV : doV f r ⟨1, a, b, c, os, ot⟩ = ansV (putE f a b os) 0 0 ⟨#[]⟩ := by simp [doV, doE, doN, doM, doT]
  have hD : doF f ⟨1, a, b, c, os, ot⟩ = putF f a b os := by simp [doF]
  have hRR : doR f r ⟨1, a, b, c, os, ot⟩ = putR f r a b os := by simp [doR]
  rw [hV, hD, hRR]
  clear hV hD hRR
  simp only [Stp.val, ansV]
  have H := hid h
  have HF := hid hF
  have HR := hid hr
  clear h hF hr
  have fW : ∀ c1 c2, Fr (fun _ => False) w ((w.alloc c1).alloc c2) := fun c1 c2 => ((Fr.refl _ _).alloc _).alloc _
  go_enter Tryz.func13, Tryz.ntmps13
  go_wp2_with fail
  refine (qput_any (H.out.frw (fW _ _) (fun _ _ h => h)) a b os HR.out).mono ?_
  rintro e w1 ⟨rfl, hr0, hf⟩
  have HZ : Hid (w.heap.size + 1 < w.heap.size + 1 + 1) := by unfold Hid; omega
  have hr1 : QR bX bS w1 (fun i => F i ∨ w.heap.size + 1 + 1 ≤ i) bQ _ _ := hr0.wide (fun i hi => by simpa using hi)
  clear hr0
  have B := hid (do_box HF.out hf)
  have HE := hid (@do_end bS bX w _ F bQ _ _ _ _ HF.out _ HZ.out hr1 hf)
  have HPA : Hid (w.heap.size + 1 = w.heap.size + 1) := rfl
  clear hr1 hf
  generalize w.heap.size + 1 = pa at *
  have c0 := B.out.a0.c
  have c1 := B.out.a1.c
  have c2 := B.out.a2.c
  have c3 := B.out.a3.c
  have f0 := B.out.a0.f
  have f1 := B.out.a1.f
  have f2 := B.out.a2.f
  have f3 := B.out.a3.f
  go_wp2_with fail
  exact retA Tryz.results13 rfl rfl B.out.a0.has B.out.a1.has B.out.a2.has B.out.a3.has ⟨rfl, (HE.out _ _ _ _).1, (HE.out _ _ _ _).2⟩

theorem do_del {w : World} {F : Nat → Prop} {bQ : Nat} {f : DocF} {r : Int → Nat} (h : QR bX bS w F bQ f r) (hF : ∀ i, F i → i < w.heap.size) (hr : ∀ k, r k < 4611686018427387904) (o : Stp) (hk : o.kind = 2) :
    Calls Tryz.prog 13 #[.pointer (some ⟨bQ, 0, none⟩), o.val] w fun e w' => e = .returned (doV f r o) ∧ QR bX bS w' (grow F w w') bQ (doF f o) (doR f r o) ∧ Fr F w w' := by
  obtain ⟨kind, a, b, c, os, ot⟩ := o
  simp only at hk
  subst hk
  have hV : doV f r ⟨2, a, b, c, os, ot⟩ = ansV (delE f a) 0 0 ⟨#[]⟩ := by simp [doV, doE, doN, doM, doT]
  have hD : doF f ⟨2, a, b, c, os, ot⟩ = delD f a := by simp [doF]
  have hRR : doR f r ⟨2, a, b, c, os, ot⟩ = r := by simp [doR]
  rw [hV, hD, hRR]
  clear hV hD hRR
  simp only [Stp.val, ansV]
  have H := hid h
  have HF := hid hF
  have HR := hid hr
  clear h hF hr
  have fW : ∀ c1 c2, Fr (fun _ => False) w ((w.alloc c1).alloc c2) := fun c1 c2 => ((Fr.refl _ _).alloc _).alloc _
  go_enter Tryz.func13, Tryz.ntmps13
  go_wp2_with fail
  refine (qdel_any (H.out.frw (fW _ _) (fun _ _ h => h)) a).mono ?_
  rintro e w1 ⟨rfl, hr0, hf⟩
  have HZ : Hid (w.heap.size + 1 < w.heap.size + 1 + 1) := by unfold Hid; omega
  have hr1 : QR bX bS w1 (fun i => F i ∨ w.heap.size + 1 + 1 ≤ i) bQ _ _ := hr0.wide (fun i hi => by simpa using hi)
  clear hr0
  have B := hid (do_box HF.out hf)
  have HE := hid (@do_end bS bX w _ F bQ _ _ _ _ HF.out _ HZ.out hr1 hf)
  have HPA : Hid (w.heap.size + 1 = w.heap.size + 1) := rfl
  clear hr1 hf
  generalize w.heap.size + 1 = pa at *
  have c0 := B.out.a0.c
  have c1 := B.out.a1.c
  have c2 := B.out.a2.c
  have c3 := B.out.a3.c
  have f0 := B.out.a0.f
  have f1 := B.out.a1.f
  have f2 := B.out.a2.f
  have f3 := B.out.a3.f
  go_wp2_with fail
  exact retA Tryz.results13 rfl rfl B.out.a0.has B.out.a1.has B.out.a2.has B.out.a3.has ⟨rfl, (HE.out _ _ _ _).1, (HE.out _ _ _ _).2⟩

theorem do_drop {w : World} {F : Nat → Prop} {bQ : Nat} {f : DocF} {r : Int → Nat} (h : QR bX bS w F bQ f r) (hF : ∀ i, F i → i < w.heap.size) (hr : ∀ k, r k < 4611686018427387904) (o : Stp) (hk : o.kind = 3) :
    Calls Tryz.prog 13 #[.pointer (some ⟨bQ, 0, none⟩), o.val] w fun e w' => e = .returned (doV f r o) ∧ QR bX bS w' (grow F w w') bQ (doF f o) (doR f r o) ∧ Fr F w w' := by
  obtain ⟨kind, a, b, c, os, ot⟩ := o
  simp only at hk
  subst hk
  have hV : doV f r ⟨3, a, b, c, os, ot⟩ = ansV 0 (cnt f a : Int) 0 ⟨#[]⟩ := by simp [doV, doE, doN, doM, doT]
  have hD : doF f ⟨3, a, b, c, os, ot⟩ = dropD f a := by simp [doF]
  have hRR : doR f r ⟨3, a, b, c, os, ot⟩ = r := by simp [doR]
  rw [hV, hD, hRR]
  clear hV hD hRR
  simp only [Stp.val, ansV]
  have H := hid h
  have HF := hid hF
  have HR := hid hr
  clear h hF hr
  have fW : ∀ c1 c2, Fr (fun _ => False) w ((w.alloc c1).alloc c2) := fun c1 c2 => ((Fr.refl _ _).alloc _).alloc _
  go_enter Tryz.func13, Tryz.ntmps13
  go_wp2_with fail
  refine (qdrop_any (H.out.frw (fW _ _) (fun _ _ h => h)) a).mono ?_
  rintro e w1 ⟨rfl, hr0, hf⟩
  have HZ : Hid (w.heap.size + 1 < w.heap.size + 1 + 1) := by unfold Hid; omega
  have hr1 : QR bX bS w1 (fun i => F i ∨ w.heap.size + 1 + 1 ≤ i) bQ _ _ := hr0.wide (fun i hi => by simpa using hi)
  clear hr0
  have B := hid (do_box HF.out hf)
  have HE := hid (@do_end bS bX w _ F bQ _ _ _ _ HF.out _ HZ.out hr1 hf)
  have HPA : Hid (w.heap.size + 1 = w.heap.size + 1) := rfl
  clear hr1 hf
  generalize w.heap.size + 1 = pa at *
  have c0 := B.out.a0.c
  have c1 := B.out.a1.c
  have c2 := B.out.a2.c
  have c3 := B.out.a3.c
  have f0 := B.out.a0.f
  have f1 := B.out.a1.f
  have f2 := B.out.a2.f
  have f3 := B.out.a3.f
  go_wp2_with fail
  exact retA Tryz.results13 rfl rfl B.out.a0.has B.out.a1.has B.out.a2.has B.out.a3.has ⟨rfl, (HE.out _ _ _ _).1, (HE.out _ _ _ _).2⟩

theorem do_reset {w : World} {F : Nat → Prop} {bQ : Nat} {f : DocF} {r : Int → Nat} (h : QR bX bS w F bQ f r) (hF : ∀ i, F i → i < w.heap.size) (hr : ∀ k, r k < 4611686018427387904) (o : Stp) (hk : o.kind = 10) :
    Calls Tryz.prog 13 #[.pointer (some ⟨bQ, 0, none⟩), o.val] w fun e w' => e = .returned (doV f r o) ∧ QR bX bS w' (grow F w w') bQ (doF f o) (doR f r o) ∧ Fr F w w' := by
  obtain ⟨kind, a, b, c, os, ot⟩ := o
  simp only at hk
  subst hk
  have hV : doV f r ⟨10, a, b, c, os, ot⟩ = ansV 0 (nDocs f : Int) 0 ⟨#[]⟩ := by simp [doV, doE, doN, doM, doT]
  have hD : doF f ⟨10, a, b, c, os, ot⟩ = noD := by simp [doF]
  have hRR : doR f r ⟨10, a, b, c, os, ot⟩ = r := by simp [doR]
  rw [hV, hD, hRR]
  clear hV hD hRR
  simp only [Stp.val, ansV]
  have H := hid h
  have HF := hid hF
  have HR := hid hr
  clear h hF hr
  have fW : ∀ c1 c2, Fr (fun _ => False) w ((w.alloc c1).alloc c2) := fun c1 c2 => ((Fr.refl _ _).alloc _).alloc _
  go_enter Tryz.func13, Tryz.ntmps13
  go_wp2_with fail
  refine (qreset_any (H.out.frw (fW _ _) (fun _ _ h => h))).mono ?_
  rintro e w1 ⟨rfl, hr0, hf⟩
  have HZ : Hid (w.heap.size + 1 < w.heap.size + 1 + 1) := by unfold Hid; omega
  have hr1 : QR bX bS w1 (fun i => F i ∨ w.heap.size + 1 + 1 ≤ i) bQ _ _ := hr0.wide (fun i hi => by simpa using hi)
  clear hr0
  have B := hid (do_box HF.out hf)
  have HE := hid (@do_end bS bX w _ F bQ _ _ _ _ HF.out _ HZ.out hr1 hf)
  have HPA : Hid (w.heap.size + 1 = w.heap.size + 1) := rfl
  clear hr1 hf
  generalize w.heap.size + 1 = pa at *
  have c0 := B.out.a0.c
  have c1 := B.out.a1.c
  have c2 := B.out.a2.c
  have c3 := B.out.a3.c
  have f0 := B.out.a0.f
  have f1 := B.out.a1.f
  have f2 := B.out.a2.f
  have f3 := B.out.a3.f
  go_wp2_with fail
  exact retA Tryz.results13 rfl rfl B.out.a0.has B.out.a1.has B.out.a2.has B.out.a3.has ⟨rfl, (HE.out _ _ _ _).1, (HE.out _ _ _ _).2⟩

theorem do_show {w : World} {F : Nat → Prop} {bQ : Nat} {f : DocF} {r : Int → Nat} (h : QR bX bS w F bQ f r) (hF : ∀ i, F i → i < w.heap.size) (hr : ∀ k, r k < 4611686018427387904) (o : Stp) (hk : o.kind = 7) :
    Calls Tryz.prog 13 #[.pointer (some ⟨bQ, 0, none⟩), o.val] w fun e w' => e = .returned (doV f r o) ∧ QR bX bS w' (grow F w w') bQ (doF f o) (doR f r o) ∧ Fr F w w' := by
  obtain ⟨kind, a, b, c, os, ot⟩ := o
  simp only at hk
  subst hk
  have hV : doV f r ⟨7, a, b, c, os, ot⟩ = ansV 0 0 0 (bs (showI f r)) := by simp [doV, doE, doN, doM, doT]
  have hD : doF f ⟨7, a, b, c, os, ot⟩ = f := by simp [doF]
  have hRR : doR f r ⟨7, a, b, c, os, ot⟩ = r := by simp [doR]
  rw [hV, hD, hRR]
  clear hV hD hRR
  simp only [Stp.val, ansV]
  have H := hid h
  have HF := hid hF
  have HR := hid hr
  clear h hF hr
  have fW : ∀ c1 c2, Fr (fun _ => False) w ((w.alloc c1).alloc c2) := fun c1 c2 => ((Fr.refl _ _).alloc _).alloc _
  go_enter Tryz.func13, Tryz.ntmps13
  go_wp2_with fail
  refine (qshow_any (H.out.frw (fW _ _) (fun _ _ h => h)) HR.out).mono ?_
  rintro e w1 ⟨rfl, hf0⟩
  have HZ : Hid (w.heap.size + 1 < w.heap.size + 1 + 1) := by unfold Hid; omega
  have hr1 : QR bX bS w1 (fun i => F i ∨ w.heap.size + 1 + 1 ≤ i) bQ f r := ((H.out.frw (fW _ _) (fun _ _ h => h)).frw hf0 (fun _ _ h => h)).wide (fun i hi => .inl hi)
  have hf : Fr F _ w1 := hf0.mono (fun _ _ h => h.elim)
  clear hf0
  have B := hid (do_box HF.out hf)
  have HE := hid (@do_end bS bX w _ F bQ _ _ _ _ HF.out _ HZ.out hr1 hf)
  have HPA : Hid (w.heap.size + 1 = w.heap.size + 1) := rfl
  clear hr1 hf
  generalize w.heap.size + 1 = pa at *
  have c0 := B.out.a0.c
  have c1 := B.out.a1.c
  have c2 := B.out.a2.c
  have c3 := B.out.a3.c
  have f0 := B.out.a0.f
  have f1 := B.out.a1.f
  have f2 := B.out.a2.f
  have f3 := B.out.a3.f
  go_wp2_with fail
  exact retA Tryz.results13 rfl rfl B.out.a0.has B.out.a1.has B.out.a2.has B.out.a3.has ⟨rfl, (HE.out _ _ _ _).1, (HE.out _ _ _ _).2⟩

theorem do_check {w : World} {F : Nat → Prop} {bQ : Nat} {f : DocF} {r : Int → Nat} (h : QR bX bS w F bQ f r) (hF : ∀ i, F i → i < w.heap.size) (hr : ∀ k, r k < 4611686018427387904) (o : Stp) (hk : o.kind = 8) :
    Calls Tryz.prog 13 #[.pointer (some ⟨bQ, 0, none⟩), o.val] w fun e w' => e = .returned (doV f r o) ∧ QR bX bS w' (grow F w w') bQ (doF f o) (doR f r o) ∧ Fr F w w' := by
  obtain ⟨kind, a, b, c, os, ot⟩ := o
  simp only at hk
  subst hk
  have hV : doV f r ⟨8, a, b, c, os, ot⟩ = ansV 0 0 0 ⟨#[]⟩ := by simp [doV, doE, doN, doM, doT]
  have hD : doF f ⟨8, a, b, c, os, ot⟩ = f := by simp [doF]
  have hRR : doR f r ⟨8, a, b, c, os, ot⟩ = r := by simp [doR]
  rw [hV, hD, hRR]
  clear hV hD hRR
  simp only [Stp.val, ansV]
  have H := hid h
  have HF := hid hF
  have HR := hid hr
  clear h hF hr
  have fW : ∀ c1 c2, Fr (fun _ => False) w ((w.alloc c1).alloc c2) := fun c1 c2 => ((Fr.refl _ _).alloc _).alloc _
  go_enter Tryz.func13, Tryz.ntmps13
  go_wp2_with fail
  refine (qcheck_any (H.out.frw (fW _ _) (fun _ _ h => h))).mono ?_
  rintro e w1 ⟨rfl, hw1⟩
  have hf0 := fr_of_eqX (fun _ => False) hw1
  clear hw1
  have HZ : Hid (w.heap.size + 1 < w.heap.size + 1 + 1) := by unfold Hid; omega
  have hr1 : QR bX bS w1 (fun i => F i ∨ w.heap.size + 1 + 1 ≤ i) bQ f r := ((H.out.frw (fW _ _) (fun _ _ h => h)).frw hf0 (fun _ _ h => h)).wide (fun i hi => .inl hi)
  have hf : Fr F _ w1 := hf0.mono (fun _ _ h => h.elim)
  clear hf0
  have B := hid (do_box HF.out hf)
  have HE := hid (@do_end bS bX w _ F bQ _ _ _ _ HF.out _ HZ.out hr1 hf)
  have HPA : Hid (w.heap.size + 1 = w.heap.size + 1) := rfl
  clear hr1 hf
  generalize w.heap.size + 1 = pa at *
  have c0 := B.out.a0.c
  have c1 := B.out.a1.c
  have c2 := B.out.a2.c
  have c3 := B.out.a3.c
  have f0 := B.out.a0.f
  have f1 := B.out.a1.f
  have f2 := B.out.a2.f
  have f3 := B.out.a3.f
  go_wp2_with fail
  exact retA Tryz.results13 rfl rfl B.out.a0.has B.out.a1.has B.out.a2.has B.out.a3.has ⟨rfl, (HE.out _ _ _ _).1, (HE.out _ _ _ _).2⟩

theorem do_len {w : World} {F : Nat → Prop} {bQ : Nat} {f : DocF} {r : Int → Nat} (h : QR bX bS w F bQ f r) (hF : ∀ i, F i → i < w.heap.size) (hr : ∀ k, r k < 4611686018427387904) (o : Stp) (hk : o.kind = 9) :
    Calls Tryz.prog 13 #[.pointer (some ⟨bQ, 0, none⟩), o.val] w fun e w' => e = .returned (doV f r o) ∧ QR bX bS w' (grow F w w') bQ (doF f o) (doR f r o) ∧ Fr F w w' := by
  obtain ⟨kind, a, b, c, os, ot⟩ := o
  simp only at hk
  subst hk
  have hV : doV f r ⟨9, a, b, c, os, ot⟩ = ansV 0 (nDocs f : Int) 0 ⟨#[]⟩ := by simp [doV, doE, doN, doM, doT]
  have hD : doF f ⟨9, a, b, c, os, ot⟩ = f := by simp [doF]
  have hRR : doR f r ⟨9, a, b, c, os, ot⟩ = r := by simp [doR]
  rw [hV, hD, hRR]
  clear hV hD hRR
  simp only [Stp.val, ansV]
  have H := hid h
  have HF := hid hF
  have HR := hid hr
  clear h hF hr
  have fW : ∀ c1 c2, Fr (fun _ => False) w ((w.alloc c1).alloc c2) := fun c1 c2 => ((Fr.refl _ _).alloc _).alloc _
  go_enter Tryz.func13, Tryz.ntmps13
  go_wp2_with fail
  refine (qlen_any (H.out.frw (fW _ _) (fun _ _ h => h))).mono ?_
  rintro e w1 ⟨rfl, hw1⟩
  have hf0 := fr_of_eqX (fun _ => False) hw1
  clear hw1
  have HZ : Hid (w.heap.size + 1 < w.heap.size + 1 + 1) := by unfold Hid; omega
  have hr1 : QR bX bS w1 (fun i => F i ∨ w.heap.size + 1 + 1 ≤ i) bQ f r := ((H.out.frw (fW _ _) (fun _ _ h => h)).frw hf0 (fun _ _ h => h)).wide (fun i hi => .inl hi)
  have hf : Fr F _ w1 := hf0.mono (fun _ _ h => h.elim)
  clear hf0
  have B := hid (do_box HF.out hf)
  have HE := hid (@do_end bS bX w _ F bQ _ _ _ _ HF.out _ HZ.out hr1 hf)
  have HPA : Hid (w.heap.size + 1 = w.heap.size + 1) := rfl
  clear hr1 hf
  generalize w.heap.size + 1 = pa at *
  have c0 := B.out.a0.c
  have c1 := B.out.a1.c
  have c2 := B.out.a2.c
  have c3 := B.out.a3.c
  have f0 := B.out.a0.f
  have f1 := B.out.a1.f
  have f2 := B.out.a2.f
  have f3 := B.out.a3.f
  go_wp2_with fail
  exact retA Tryz.results13 rfl rfl B.out.a0.has B.out.a1.has B.out.a2.has B.out.a3.has ⟨rfl, (HE.out _ _ _ _).1, (HE.out _ _ _ _).2⟩

theorem do_find {w : World} {F : Nat → Prop} {bQ : Nat} {f : DocF} {r : Int → Nat} (h : QR bX bS w F bQ f r) (hF : ∀ i, F i → i < w.heap.size) (hr : ∀ k, r k < 4611686018427387904) (o : Stp) (hk : o.kind = 4) :
    Calls Tryz.prog 13 #[.pointer (some ⟨bQ, 0, none⟩), o.val] w fun e w' => e = .returned (doV f r o) ∧ QR bX bS w' (grow F w w') bQ (doF f o) (doR f r o) ∧ Fr F w w' := by
  obtain ⟨kind, a, b, c, os, ot⟩ := o
  simp only at hk
  subst hk
  have hV : doV f r ⟨4, a, b, c, os, ot⟩ = ansV (findE a os ot) ((findL f a os ot).length : Int) 0 (bs (ints (findL f a os ot))) := by simp [doV, doE, doN, doM, doT]
  have hD : doF f ⟨4, a, b, c, os, ot⟩ = f := by simp [doF]
  have hRR : doR f r ⟨4, a, b, c, os, ot⟩ = r := by simp [doR]
  rw [hV, hD, hRR]
  clear hV hD hRR
  simp only [Stp.val, ansV]
  have H := hid h
  have HF := hid hF
  have HR := hid hr
  clear h hF hr
  have fW : ∀ c1 c2, Fr (fun _ => False) w ((w.alloc c1).alloc c2) := fun c1 c2 => ((Fr.refl _ _).alloc _).alloc _
  go_enter Tryz.func13, Tryz.ntmps13
  go_wp2_with fail
  refine (find_any (H.out.frw (fW _ _) (fun _ _ h => h)) a os ot).mono ?_
  rintro e w1 ⟨v, rfl, ow, hnl, hfa⟩
  have HFA := hid hfa
  have OW := hid ow
  have NL := hid hnl
  clear hfa ow hnl
  go_wp2_with fail
  have hl := ids_law OW.out (findL_i64 f a os ot) NL.out (findE a os ot) (by have := findL_le f a os ot; omega)
  simp only [ansV] at hl
  refine hl.mono ?_
  clear hl
  rintro e w2 ⟨rfl, hfb⟩
  have hf0 := HFA.out.then hfb (fun i hi h => by simp only [World.size_alloc] at hi h; omega)
  clear hfb HFA OW NL
  have HZ : Hid (w.heap.size + 1 < w.heap.size + 1 + 1) := by unfold Hid; omega
  have hr1 : QR bX bS w2 (fun i => F i ∨ w.heap.size + 1 + 1 ≤ i) bQ f r := ((H.out.frw (fW _ _) (fun _ _ h => h)).frw hf0 (fun _ _ h => h)).wide (fun i hi => .inl hi)
  have hf : Fr F _ w2 := hf0.mono (fun _ _ h => h.elim)
  clear hf0
  have B := hid (do_box HF.out hf)
  have HE := hid (@do_end bS bX w _ F bQ _ _ _ _ HF.out _ HZ.out hr1 hf)
  have HPA : Hid (w.heap.size + 1 = w.heap.size + 1) := rfl
  clear hr1 hf
  generalize w.heap.size + 1 = pa at *
  have c0 := B.out.a0.c
  have c1 := B.out.a1.c
  have c2 := B.out.a2.c
  have c3 := B.out.a3.c
  have f0 := B.out.a0.f
  have f1 := B.out.a1.f
  have f2 := B.out.a2.f
  have f3 := B.out.a3.f
  go_wp2_with fail
  exact retA Tryz.results13 rfl rfl B.out.a0.has B.out.a1.has B.out.a2.has B.out.a3.has ⟨rfl, (HE.out _ _ _ _).1, (HE.out _ _ _ _).2⟩

theorem do_groups {w : World} {F : Nat → Prop} {bQ : Nat} {f : DocF} {r : Int → Nat} (h : QR bX bS w F bQ f r) (hF : ∀ i, F i → i < w.heap.size) (hr : ∀ k, r k < 4611686018427387904) (o : Stp) (hk : o.kind = 5) :
    Calls Tryz.prog 13 #[.pointer (some ⟨bQ, 0, none⟩), o.val] w fun e w' => e = .returned (doV f r o) ∧ QR bX bS w' (grow F w w') bQ (doF f o) (doR f r o) ∧ Fr F w w' := by
  obtain ⟨kind, a, b, c, os, ot⟩ := o
  simp only at hk
  subst hk
  have hV : doV f r ⟨5, a, b, c, os, ot⟩ = ansV (grpsE os) ((grpsL f os).length : Int) 0 (bs (cnts (grpsL f os))) := by simp [doV, doE, doN, doM, doT]
  have hD : doF f ⟨5, a, b, c, os, ot⟩ = f := by simp [doF]
  have hRR : doR f r ⟨5, a, b, c, os, ot⟩ = r := by simp [doR]
  rw [hV, hD, hRR]
  clear hV hD hRR
  simp only [Stp.val, ansV]
  have H := hid h
  have HF := hid hF
  have HR := hid hr
  clear h hF hr
  have fW : ∀ c1 c2, Fr (fun _ => False) w ((w.alloc c1).alloc c2) := fun c1 c2 => ((Fr.refl _ _).alloc _).alloc _
  go_enter Tryz.func13, Tryz.ntmps13
  go_wp2_with fail
  refine (groups_any (H.out.frw (fW _ _) (fun _ _ h => h)) os).mono ?_
  rintro e w1 ⟨v, rfl, ow, hnl, hfa⟩
  have HFA := hid hfa
  have OW := hid ow
  have NL := hid hnl
  clear hfa ow hnl
  go_wp2_with fail
  have hl := pairs_law OW.out (grpsL_i64 f os) NL.out (grpsE os) (by have := grpsL_len f os; omega)
  simp only [ansV] at hl
  refine hl.mono ?_
  clear hl
  rintro e w2 ⟨rfl, hfb⟩
  have hf0 := HFA.out.then hfb (fun i hi h => by simp only [World.size_alloc] at hi h; omega)
  clear hfb HFA OW NL
  have HZ : Hid (w.heap.size + 1 < w.heap.size + 1 + 1) := by unfold Hid; omega
  have hr1 : QR bX bS w2 (fun i => F i ∨ w.heap.size + 1 + 1 ≤ i) bQ f r := ((H.out.frw (fW _ _) (fun _ _ h => h)).frw hf0 (fun _ _ h => h)).wide (fun i hi => .inl hi)
  have hf : Fr F _ w2 := hf0.mono (fun _ _ h => h.elim)
  clear hf0
  have B := hid (do_box HF.out hf)
  have HE := hid (@do_end bS bX w _ F bQ _ _ _ _ HF.out _ HZ.out hr1 hf)
  have HPA : Hid (w.heap.size + 1 = w.heap.size + 1) := rfl
  clear hr1 hf
  generalize w.heap.size + 1 = pa at *
  have c0 := B.out.a0.c
  have c1 := B.out.a1.c
  have c2 := B.out.a2.c
  have c3 := B.out.a3.c
  have f0 := B.out.a0.f
  have f1 := B.out.a1.f
  have f2 := B.out.a2.f
  have f3 := B.out.a3.f
  go_wp2_with fail
  exact retA Tryz.results13 rfl rfl B.out.a0.has B.out.a1.has B.out.a2.has B.out.a3.has ⟨rfl, (HE.out _ _ _ _).1, (HE.out _ _ _ _).2⟩

theorem do_top {w : World} {F : Nat → Prop} {bQ : Nat} {f : DocF} {r : Int → Nat} (h : QR bX bS w F bQ f r) (hF : ∀ i, F i → i < w.heap.size) (hr : ∀ k, r k < 4611686018427387904) (o : Stp) (hk : o.kind = 6) :
    Calls Tryz.prog 13 #[.pointer (some ⟨bQ, 0, none⟩), o.val] w fun e w' => e = .returned (doV f r o) ∧ QR bX bS w' (grow F w w') bQ (doF f o) (doR f r o) ∧ Fr F w w' := by
  obtain ⟨kind, a, b, c, os, ot⟩ := o
  simp only at hk
  subst hk
  have hV : doV f r ⟨6, a, b, c, os, ot⟩ = ansV (topE a) ((topL f a).length : Int) 0 (bs (strs (topL f a))) := by simp [doV, doE, doN, doM, doT]
  have hD : doF f ⟨6, a, b, c, os, ot⟩ = f := by simp [doF]
  have hRR : doR f r ⟨6, a, b, c, os, ot⟩ = r := by simp [doR]
  rw [hV, hD, hRR]
  clear hV hD hRR
  simp only [Stp.val, ansV]
  have H := hid h
  have HF := hid hF
  have HR := hid hr
  clear h hF hr
  have fW : ∀ c1 c2, Fr (fun _ => False) w ((w.alloc c1).alloc c2) := fun c1 c2 => ((Fr.refl _ _).alloc _).alloc _
  go_enter Tryz.func13, Tryz.ntmps13
  go_wp2_with fail
  refine (top_any (H.out.frw (fW _ _) (fun _ _ h => h)) a).mono ?_
  rintro e w1 ⟨v, rfl, ow, hnl, hfa⟩
  have HFA := hid hfa
  have OW := hid ow
  have NL := hid hnl
  clear hfa ow hnl
  go_wp2_with fail
  have hl := words_law OW.out (fun x hx => (wordsOf_size H.out.ok (topL_mem H.out.ok hx)).2) NL.out (topE a) (by have := topL_len H.out.ok a; omega)
  simp only [ansV] at hl
  refine hl.mono ?_
  clear hl
  rintro e w2 ⟨rfl, hfb⟩
  have hf0 := HFA.out.then hfb (fun i hi h => by simp only [World.size_alloc] at hi h; omega)
  clear hfb HFA OW NL
  have HZ : Hid (w.heap.size + 1 < w.heap.size + 1 + 1) := by unfold Hid; omega
  have hr1 : QR bX bS w2 (fun i => F i ∨ w.heap.size + 1 + 1 ≤ i) bQ f r := ((H.out.frw (fW _ _) (fun _ _ h => h)).frw hf0 (fun _ _ h => h)).wide (fun i hi => .inl hi)
  have hf : Fr F _ w2 := hf0.mono (fun _ _ h => h.elim)
  clear hf0
  have B := hid (do_box HF.out hf)
  have HE := hid (@do_end bS bX w _ F bQ _ _ _ _ HF.out _ HZ.out hr1 hf)
  have HPA : Hid (w.heap.size + 1 = w.heap.size + 1) := rfl
  clear hr1 hf
  generalize w.heap.size + 1 = pa at *
  have c0 := B.out.a0.c
  have c1 := B.out.a1.c
  have c2 := B.out.a2.c
  have c3 := B.out.a3.c
  have f0 := B.out.a0.f
  have f1 := B.out.a1.f
  have f2 := B.out.a2.f
  have f3 := B.out.a3.f
  go_wp2_with fail
  exact retA Tryz.results13 rfl rfl B.out.a0.has B.out.a1.has B.out.a2.has B.out.a3.has ⟨rfl, (HE.out _ _ _ _).1, (HE.out _ _ _ _).2⟩

theorem do_any {w : World} {F : Nat → Prop} {bQ : Nat} {f : DocF} {r : Int → Nat} (h : QR bX bS w F bQ f r) (hF : ∀ i, F i → i < w.heap.size) (hr : ∀ k, r k < 4611686018427387904) (o : Stp) :
    Calls Tryz.prog 13 #[.pointer (some ⟨bQ, 0, none⟩), o.val] w fun e w' => e = .returned (doV f r o) ∧ QR bX bS w' (grow F w w') bQ (doF f o) (doR f r o) ∧ Fr F w w' := by
  by_cases k1 : o.kind = 1
  · exact do_put h hF hr o k1
  by_cases k2 : o.kind = 2
  · exact do_del h hF hr o k2
  by_cases k3 : o.kind = 3
  · exact do_drop h hF hr o k3
  by_cases k4 : o.kind = 4
  · exact do_find h hF hr o k4
  by_cases k5 : o.kind = 5
  · exact do_groups h hF hr o k5
  by_cases k6 : o.kind = 6
  · exact do_top h hF hr o k6
  by_cases k7 : o.kind = 7
  · exact do_show h hF hr o k7
  by_cases k8 : o.kind = 8
  · exact do_check h hF hr o k8
  by_cases k9 : o.kind = 9
  · exact do_len h hF hr o k9
  by_cases k10 : o.kind = 10
  · exact do_reset h hF hr o k10
  have hV : doV f r o = ansV 0 0 0 ⟨#[]⟩ := by simp [doV, doE, doN, doM, doT, k1, k2, k3, k4, k5, k6, k7, k8, k9, k10]
  have hD : doF f o = f := by simp [doF, k1, k2, k3, k4, k5, k6, k7, k8, k9, k10]
  have hRR : doR f r o = r := by simp [doR, k1]
  rw [hV, hD, hRR]
  clear hV hD hRR
  obtain ⟨kind, a, b, c, os, ot⟩ := o
  simp only at k1 k2 k3 k4 k5 k6 k7 k8 k9 k10
  simp only [Stp.val]
  have j1 : (kind == 1) = false := beq_eq_false_iff_ne.2 k1
  have j2 : (kind == 2) = false := beq_eq_false_iff_ne.2 k2
  have j3 : (kind == 3) = false := beq_eq_false_iff_ne.2 k3
  have j4 : (kind == 4) = false := beq_eq_false_iff_ne.2 k4
  have j5 : (kind == 5) = false := beq_eq_false_iff_ne.2 k5
  have j6 : (kind == 6) = false := beq_eq_false_iff_ne.2 k6
  have j7 : (kind == 7) = false := beq_eq_false_iff_ne.2 k7
  have j8 : (kind == 8) = false := beq_eq_false_iff_ne.2 k8
  have j9 : (kind == 9) = false := beq_eq_false_iff_ne.2 k9
  have j10 : (kind == 10) = false := beq_eq_false_iff_ne.2 k10
  clear k1 k2 k3 k4 k5 k6 k7 k8 k9 k10
  go_enter Tryz.func13, Tryz.ntmps13
  go_wp2_with fail
  refine bodyPost_ret (v := ansV 0 0 0 ⟨#[]⟩) (by simp [results, Tryz.results13, go_sem, ansV]) rfl ⟨rfl, ?_, ?_⟩
  · exact (h.frw (((Fr.refl (fun _ => False) _).alloc _).alloc _) (fun _ _ h => h)).wide (fun i hi => .inl hi)
  · exact ((Fr.refl _ _).alloc _).alloc _

end Go.Proofs.Qxb6500450aGreat
