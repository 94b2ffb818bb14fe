/- Twin; the closed examples. -/
import Derived.Test.Qxb6500449aNFound
namespace Go.Proofs.Qxb6500449a
open Go Go.RowKit
set_option maxRecDepth 100000
set_option maxHeartbeats 1600000
set_option linter.unusedSimpArgs false
set_option linter.unusedVariables false
variable {bS : Nat}

theorem twin_end {w w1 : World} {F : Nat → Prop} {f' : DocF} {r' : Int → Nat} {c0 c1 c2 : Obj} (hF : ∀ i, F i → i < w.heap.size) (hr : SR w1 (fun i => F i ∨ w.heap.size + 3 ≤ i) bS f' r') (hf : Fr F (((w.alloc c0).alloc c1).alloc c2) w1) (v0 v1 v2 v3 : Value) {pa : Nat} (hpa : pa = w.heap.size + 1 + 1) :
    SR ((((w1.setCell ⟨pa, 0, none⟩ v0).setCell ⟨pa, 1, none⟩ v1).setCell ⟨pa, 2, none⟩ v2).setCell ⟨pa, 3, none⟩ v3) (grow F w ((((w1.setCell ⟨pa, 0, none⟩ v0).setCell ⟨pa, 1, none⟩ v1).setCell ⟨pa, 2, none⟩ v2).setCell ⟨pa, 3, none⟩ v3)) bS f' r' ∧
    Fr F w ((((w1.setCell ⟨pa, 0, none⟩ v0).setCell ⟨pa, 1, none⟩ v1).setCell ⟨pa, 2, none⟩ v2).setCell ⟨pa, 3, none⟩ v3) := by
  have hb := box_fr w1 pa v0 v1 v2 v3
  generalize (((w1.setCell ⟨pa, 0, none⟩ v0).setCell ⟨pa, 1, none⟩ v1).setCell ⟨pa, 2, none⟩ v2).setCell ⟨pa, 3, none⟩ v3 = w2 at *
  have hs := hf.size
  simp only [World.size_alloc] at hs
  refine ⟨((hr.frw hb (fun i hi e => ?_)).within).wide (fun i hi => ?_), ((((Fr.refl F w).alloc _).alloc _).alloc _ |>.trans hf).then hb (fun i hi e => by omega)⟩
  · rcases hi with hi | hi
    · have := hF i hi; omega
    · omega
  · obtain ⟨h1, h2⟩ := hi
    rcases h1 with h1 | h1
    · exact .inl h1
    · exact .inr ⟨by omega, h2⟩
theorem twin_box {w w1 : World} {F : Nat → Prop} (hF : ∀ i, F i → i < w.heap.size) {c0 c : Obj} (hf : Fr F (((w.alloc c0).alloc c).alloc (.cells #[.int .i64 0, .int .i64 0, .int .i64 0, .string ⟨#[]⟩] 46)) w1) : Box w1 (w.heap.size + 1 + 1) := by
  have := Box.new ((w.alloc c0).alloc c)
  simp only [World.size_alloc] at this
  exact this.fr hf (fun h => by have := hF _ h; omega)

theorem twin_put {w : World} {F : Nat → Prop} {f : DocF} {r : Int → Nat} (h : SR w F bS f r) (hF : ∀ i, F i → i < w.heap.size) (hr : ∀ k, r k < 4611686018427387904) (o : Stp) (hk : o.kind = 1) :
    Calls Try.prog 22 #[bwV bS, o.val] w fun e w' => e = .returned (doV f r o) ∧ SR w' (grow F w w') bS (doF f o) (doR f r o) ∧ Fr F w w' := by
  obtain ⟨kind, a, b, c, os, ot⟩ := o
  simp only at hk
  subst hk
  have hV : doV f r ⟨1, a, b, c, os, ot⟩ = ansV (putE f a b os) 0 0 ⟨#[]⟩ := by simp [doV, doE, doN, doM, doT]
  have hD : doF f ⟨1, a, b, c, os, ot⟩ = putF f a b os := by simp [doF]
  have hRR : doR f r ⟨1, a, b, c, os, ot⟩ = putR f r a b os := by simp [doR]
  rw [hV, hD, hRR]
  clear hV hD hRR
  simp only [Stp.val, ansV, bwV]
  have H := hid h
  have HF := hid hF
  have HR := hid hr
  clear h hF hr
  have SW : Hid (SR (((w.alloc (.cells #[.pointer (some ⟨bS, 0, none⟩)] 27)).alloc (.cells #[.int .i64 1, .int .i64 a, .int .i64 b, .int .i64 c, .string os, .string ot] 40)).alloc (.cells #[.int .i64 0, .int .i64 0, .int .i64 0, .string ⟨#[]⟩] 46)) F bS f r) := H.out.frw ((((Fr.refl (fun _ => False) w).alloc _).alloc _).alloc _) (fun _ _ h => h)
  go_enter Try.func22, Try.ntmps22
  go_wp2_with fail
  refine (put_any SW.out a b os HR.out).mono ?_
  rintro e w1 ⟨rfl, hr0, hf⟩
  have hr1 : SR w1 (fun i => F i ∨ w.heap.size + 3 ≤ i) bS _ _ := hr0.wide (fun i hi => by simpa [World.size_alloc, Nat.add_assoc] using hi)
  clear hr0
  have B := hid (twin_box HF.out hf)
  have HE : Hid (∀ {pa : Nat} (hpa : pa = w.heap.size + 1 + 1) (v0 v1 v2 v3 : Value), _) := fun hpa v0 v1 v2 v3 => twin_end HF.out hr1 hf v0 v1 v2 v3 hpa
  clear hr1 hf SW
  obtain ⟨pa, hpa⟩ : ∃ pa, pa = w.heap.size + 1 + 1 := ⟨_, rfl⟩
  rw [← hpa] at B ⊢
  have HPA := hid hpa
  clear hpa
  have c0 := B.out.a0.c
  have c1 := B.out.a1.c
  have c2 := B.out.a2.c
  have c3 := B.out.a3.c
  have f0 := B.out.a0.f
  have f1 := B.out.a1.f
  have f2 := B.out.a2.f
  have f3 := B.out.a3.f
  go_wp2_with fail
  exact retA Try.results22 rfl rfl B.out.a0.has B.out.a1.has B.out.a2.has B.out.a3.has ⟨rfl, (HE.out HPA.out _ _ _ _).1, (HE.out HPA.out _ _ _ _).2⟩

theorem twin_del {w : World} {F : Nat → Prop} {f : DocF} {r : Int → Nat} (h : SR w F bS f r) (hF : ∀ i, F i → i < w.heap.size) (hr : ∀ k, r k < 4611686018427387904) (o : Stp) (hk : o.kind = 2) :
    Calls Try.prog 22 #[bwV bS, o.val] w fun e w' => e = .returned (doV f r o) ∧ SR w' (grow F w w') bS (doF f o) (doR f r o) ∧ Fr F w w' := by
  obtain ⟨kind, a, b, c, os, ot⟩ := o
  simp only at hk
  subst hk
  have hV : doV f r ⟨2, a, b, c, os, ot⟩ = ansV (delE f a) 0 0 ⟨#[]⟩ := by simp [doV, doE, doN, doM, doT]
  have hD : doF f ⟨2, a, b, c, os, ot⟩ = delD f a := by simp [doF]
  have hRR : doR f r ⟨2, a, b, c, os, ot⟩ = r := by simp [doR]
  rw [hV, hD, hRR]
  clear hV hD hRR
  simp only [Stp.val, ansV, bwV]
  have H := hid h
  have HF := hid hF
  have HR := hid hr
  clear h hF hr
  have SW : Hid (SR (((w.alloc (.cells #[.pointer (some ⟨bS, 0, none⟩)] 27)).alloc (.cells #[.int .i64 2, .int .i64 a, .int .i64 b, .int .i64 c, .string os, .string ot] 40)).alloc (.cells #[.int .i64 0, .int .i64 0, .int .i64 0, .string ⟨#[]⟩] 46)) F bS f r) := H.out.frw ((((Fr.refl (fun _ => False) w).alloc _).alloc _).alloc _) (fun _ _ h => h)
  go_enter Try.func22, Try.ntmps22
  go_wp2_with fail
  refine (del_any SW.out a).mono ?_
  rintro e w1 ⟨rfl, hr0, hf⟩
  have hr1 : SR w1 (fun i => F i ∨ w.heap.size + 3 ≤ i) bS _ _ := hr0.wide (fun i hi => .inl hi)
  clear hr0
  have B := hid (twin_box HF.out hf)
  have HE : Hid (∀ {pa : Nat} (hpa : pa = w.heap.size + 1 + 1) (v0 v1 v2 v3 : Value), _) := fun hpa v0 v1 v2 v3 => twin_end HF.out hr1 hf v0 v1 v2 v3 hpa
  clear hr1 hf SW
  obtain ⟨pa, hpa⟩ : ∃ pa, pa = w.heap.size + 1 + 1 := ⟨_, rfl⟩
  rw [← hpa] at B ⊢
  have HPA := hid hpa
  clear hpa
  have c0 := B.out.a0.c
  have c1 := B.out.a1.c
  have c2 := B.out.a2.c
  have c3 := B.out.a3.c
  have f0 := B.out.a0.f
  have f1 := B.out.a1.f
  have f2 := B.out.a2.f
  have f3 := B.out.a3.f
  go_wp2_with fail
  exact retA Try.results22 rfl rfl B.out.a0.has B.out.a1.has B.out.a2.has B.out.a3.has ⟨rfl, (HE.out HPA.out _ _ _ _).1, (HE.out HPA.out _ _ _ _).2⟩

theorem twin_drop {w : World} {F : Nat → Prop} {f : DocF} {r : Int → Nat} (h : SR w F bS f r) (hF : ∀ i, F i → i < w.heap.size) (hr : ∀ k, r k < 4611686018427387904) (o : Stp) (hk : o.kind = 3) :
    Calls Try.prog 22 #[bwV bS, o.val] w fun e w' => e = .returned (doV f r o) ∧ SR w' (grow F w w') bS (doF f o) (doR f r o) ∧ Fr F w w' := by
  obtain ⟨kind, a, b, c, os, ot⟩ := o
  simp only at hk
  subst hk
  have hV : doV f r ⟨3, a, b, c, os, ot⟩ = ansV 0 (cnt f a : Int) 0 ⟨#[]⟩ := by simp [doV, doE, doN, doM, doT]
  have hD : doF f ⟨3, a, b, c, os, ot⟩ = dropD f a := by simp [doF]
  have hRR : doR f r ⟨3, a, b, c, os, ot⟩ = r := by simp [doR]
  rw [hV, hD, hRR]
  clear hV hD hRR
  simp only [Stp.val, ansV, bwV]
  have H := hid h
  have HF := hid hF
  have HR := hid hr
  clear h hF hr
  have SW : Hid (SR (((w.alloc (.cells #[.pointer (some ⟨bS, 0, none⟩)] 27)).alloc (.cells #[.int .i64 3, .int .i64 a, .int .i64 b, .int .i64 c, .string os, .string ot] 40)).alloc (.cells #[.int .i64 0, .int .i64 0, .int .i64 0, .string ⟨#[]⟩] 46)) F bS f r) := H.out.frw ((((Fr.refl (fun _ => False) w).alloc _).alloc _).alloc _) (fun _ _ h => h)
  go_enter Try.func22, Try.ntmps22
  go_wp2_with fail
  refine (drop_any SW.out a).mono ?_
  rintro e w1 ⟨rfl, hr0, hf⟩
  have hr1 : SR w1 (fun i => F i ∨ w.heap.size + 3 ≤ i) bS _ _ := hr0.wide (fun i hi => .inl hi)
  clear hr0
  have B := hid (twin_box HF.out hf)
  have HE : Hid (∀ {pa : Nat} (hpa : pa = w.heap.size + 1 + 1) (v0 v1 v2 v3 : Value), _) := fun hpa v0 v1 v2 v3 => twin_end HF.out hr1 hf v0 v1 v2 v3 hpa
  clear hr1 hf SW
  obtain ⟨pa, hpa⟩ : ∃ pa, pa = w.heap.size + 1 + 1 := ⟨_, rfl⟩
  rw [← hpa] at B ⊢
  have HPA := hid hpa
  clear hpa
  have c0 := B.out.a0.c
  have c1 := B.out.a1.c
  have c2 := B.out.a2.c
  have c3 := B.out.a3.c
  have f0 := B.out.a0.f
  have f1 := B.out.a1.f
  have f2 := B.out.a2.f
  have f3 := B.out.a3.f
  go_wp2_with fail
  exact retA Try.results22 rfl rfl B.out.a0.has B.out.a1.has B.out.a2.has B.out.a3.has ⟨rfl, (HE.out HPA.out _ _ _ _).1, (HE.out HPA.out _ _ _ _).2⟩

theorem twin_reset {w : World} {F : Nat → Prop} {f : DocF} {r : Int → Nat} (h : SR w F bS f r) (hF : ∀ i, F i → i < w.heap.size) (hr : ∀ k, r k < 4611686018427387904) (o : Stp) (hk : o.kind = 12) :
    Calls Try.prog 22 #[bwV bS, o.val] w fun e w' => e = .returned (doV f r o) ∧ SR w' (grow F w w') bS (doF f o) (doR f r o) ∧ Fr F w w' := by
  obtain ⟨kind, a, b, c, os, ot⟩ := o
  simp only at hk
  subst hk
  have hV : doV f r ⟨12, a, b, c, os, ot⟩ = ansV 0 (nDocs f : Int) 0 ⟨#[]⟩ := by simp [doV, doE, doN, doM, doT]
  have hD : doF f ⟨12, a, b, c, os, ot⟩ = noD := by simp [doF]
  have hRR : doR f r ⟨12, a, b, c, os, ot⟩ = r := by simp [doR]
  rw [hV, hD, hRR]
  clear hV hD hRR
  simp only [Stp.val, ansV, bwV]
  have H := hid h
  have HF := hid hF
  have HR := hid hr
  clear h hF hr
  have SW : Hid (SR (((w.alloc (.cells #[.pointer (some ⟨bS, 0, none⟩)] 27)).alloc (.cells #[.int .i64 12, .int .i64 a, .int .i64 b, .int .i64 c, .string os, .string ot] 40)).alloc (.cells #[.int .i64 0, .int .i64 0, .int .i64 0, .string ⟨#[]⟩] 46)) F bS f r) := H.out.frw ((((Fr.refl (fun _ => False) w).alloc _).alloc _).alloc _) (fun _ _ h => h)
  go_enter Try.func22, Try.ntmps22
  go_wp2_with fail
  refine (reset_any SW.out).mono ?_
  rintro e w1 ⟨rfl, hr0, hf⟩
  have hr1 : SR w1 (fun i => F i ∨ w.heap.size + 3 ≤ i) bS _ _ := hr0.wide (fun i hi => .inl hi)
  clear hr0
  have B := hid (twin_box HF.out hf)
  have HE : Hid (∀ {pa : Nat} (hpa : pa = w.heap.size + 1 + 1) (v0 v1 v2 v3 : Value), _) := fun hpa v0 v1 v2 v3 => twin_end HF.out hr1 hf v0 v1 v2 v3 hpa
  clear hr1 hf SW
  obtain ⟨pa, hpa⟩ : ∃ pa, pa = w.heap.size + 1 + 1 := ⟨_, rfl⟩
  rw [← hpa] at B ⊢
  have HPA := hid hpa
  clear hpa
  have c0 := B.out.a0.c
  have c1 := B.out.a1.c
  have c2 := B.out.a2.c
  have c3 := B.out.a3.c
  have f0 := B.out.a0.f
  have f1 := B.out.a1.f
  have f2 := B.out.a2.f
  have f3 := B.out.a3.f
  go_wp2_with fail
  exact retA Try.results22 rfl rfl B.out.a0.has B.out.a1.has B.out.a2.has B.out.a3.has ⟨rfl, (HE.out HPA.out _ _ _ _).1, (HE.out HPA.out _ _ _ _).2⟩

def isCh (o : Stp) : Prop := o.kind = 1 ∨ o.kind = 2 ∨ o.kind = 3 ∨ o.kind = 12
theorem twin_any {w : World} {F : Nat → Prop} {f : DocF} {r : Int → Nat} (h : SR w F bS f r) (hF : ∀ i, F i → i < w.heap.size) (hr : ∀ k, r k < 4611686018427387904) (o : Stp) (hk : isCh o) :
    Calls Try.prog 22 #[bwV bS, o.val] w fun e w' => e = .returned (doV f r o) ∧ SR w' (grow F w w') bS (doF f o) (doR f r o) ∧ Fr F w w' := by
  rcases hk with k | k | k | k
  · exact twin_put h hF hr o k
  · exact twin_del h hF hr o k
  · exact twin_drop h hF hr o k
  · exact twin_reset h hF hr o k
theorem do_same {f : DocF} {r : Int → Nat} {o : Stp} (h : ¬ isCh o) : doF f o = f ∧ doR f r o = r := by
  unfold isCh at h
  have h1 : ¬ o.kind = 1 := fun e => h (.inl e)
  have h2 : ¬ o.kind = 2 := fun e => h (.inr (.inl e))
  have h3 : ¬ o.kind = 3 := fun e => h (.inr (.inr (.inl e)))
  have h4 : ¬ o.kind = 12 := fun e => h (.inr (.inr (.inr e)))
  exact ⟨by simp [doF, h1, h2, h3, h4], by simp [doR, h1]⟩

def abc : ByteArray := ⟨#[97, 98, 32, 99]⟩
def exF : DocF := putD noD 3 1 abc
def exR : Int → Nat := incC (fun _ => 0) 3
theorem ex_s0 : bs (showI noD (fun _ => 0)) = ⟨#[124, 48, 32, 48, 32, 48, 32, 48, 32, 48, 32, 48, 32, 48, 32, 48, 32, 48, 32, 124, 48, 32, 48, 32, 48, 32, 35]⟩ := by kernel_rfl
theorem ex_e1 : putE noD 3 1 abc = 0 := by
  have h1 : textOK abc = true := by kernel_rfl
  have h2 : nDocs noD = 0 := nDocs_no
  have h3 : goodB 3 = true := by decide
  have h4 : abc.size = 4 := rfl
  unfold putE
  rw [h1, h2, h3, h4]
  simp
theorem ex_f1 : putF noD 3 1 abc = exF := by unfold putF; rw [ex_e1]; rfl
theorem ex_r1 : putR noD (fun _ => 0) 3 1 abc = exR := by unfold putR; rw [ex_e1]; rfl
theorem ex_s1 : bs (showI exF exR) = ⟨#[51, 47, 49, 47, 97, 98, 32, 99, 59, 124, 48, 32, 48, 32, 49, 32, 48, 32, 48, 32, 48, 32, 48, 32, 48, 32, 48, 32, 124, 48, 32, 49, 32, 48, 32, 35, 97, 98, 61, 51, 32, 64, 48, 32, 49, 32, 48, 32, 59, 99, 61, 51, 32, 64, 48, 32, 49, 32, 48, 32, 59]⟩ := by kernel_rfl
theorem exR_small : ∀ k, exR k < 4611686018427387904 := fun k => by unfold exR incC; split <;> simp only [] <;> omega

theorem examples_any (w : World) : Calls Try.prog 7 #[] w fun e w' => e = .returned (.bool true) ∧ Fr (fun _ => False) w w' := by
  go_enter Try.func7, Try.ntmps7
  go_wp2_with fail
  refine (ground_any _).mono ?_
  rintro e w1 ⟨b, rfl, hb, hr, f1⟩
  have F1 := hid (f1.alloc (.cells #[.pointer (some ⟨b, 0, none⟩)] 27))
  have fb := (Fr.refl (fun _ => False) w1).alloc (.cells #[.pointer (some ⟨b, 0, none⟩)] 27)
  have HN := hid (inew_any (hr.frw fb (fun _ _ h => h)) (fun i hi => by have := hi.2; simp; omega))
  have HZ : Hid (w.heap.size ≤ w1.heap.size) := f1.size
  clear hr f1 fb hb
  simp only [bwV]
  go_wp2_with fail
  refine HN.out.mono ?_
  rintro e w2 ⟨bX, rfl, hbx, xr, f2⟩
  have X2 := hid (xr.wide (G := fun i => w.heap.size ≤ i) (fun i hi => by rcases hi with hi | hi; exact hi.1; have := HZ.out; have := hi.1; simp at this; omega))
  have F2 := hid (F1.out.trans f2)
  clear xr f2 hbx HN F1
  go_wp2_with fail
  refine (ishow_any X2.out (fun _ => by omega)).mono ?_
  rintro e w3 ⟨rfl, f3⟩
  rw [ex_s0]
  have X3 := hid ((X2.out.frw f3 (fun _ _ h => h)).bound)
  have F3 := hid (F2.out.trans f3)
  clear f3 X2 F2
  go_wp2_with fail
  have hp := iput_any X3.out (fun i hi => hi.2) 3 1 abc (fun _ => by omega)
  simp only [abc] at hp
  refine hp.mono ?_
  clear hp
  rintro e w4 ⟨rfl, x4, f4⟩
  rw [show (⟨#[97, 98, 32, 99]⟩ : ByteArray) = abc from rfl, ex_f1, ex_r1] at x4
  rw [show (⟨#[97, 98, 32, 99]⟩ : ByteArray) = abc from rfl, ex_e1]
  have X4 := hid x4
  have F4 : Hid (Fr (fun _ => False) w w4) := F3.out.then f4 (fun i hi e => by have e' : w.heap.size ≤ i ∧ _ := e; omega)
  clear x4 f4 X3 F3
  go_wp2_with fail
  refine (ishow_any X4.out exR_small).mono ?_
  rintro e w5 ⟨rfl, f5⟩
  rw [ex_s1]
  have F5 := hid (F4.out.trans f5)
  clear f5
  go_wp2_with fail
  go_ret
  exact ⟨rfl, F5.out⟩

end Go.Proofs.Qxb6500449a
