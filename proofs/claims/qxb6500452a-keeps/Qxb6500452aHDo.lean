/- The players Do and DoM of the gate's law. -/
import Derived.Test.Qxb6500452aHLaw
import Derived.Test.Qxb6500452aHServe
namespace Go.Proofs.Qxb6500452a
open Go Go.RowKit
set_option maxRecDepth 100000
set_option maxHeartbeats 1600000
set_option linter.unusedSimpArgs false
set_option linter.unusedVariables false

theorem gdo_serve {w : World} {G : Nat} {b : LB} {s : Led} {c : Cts} (h : GT w G b s c) (o : Stp) (hk : o.kind = 2) :
    Calls Try.prog 36 #[.pointer (some ⟨G, 0, none⟩), o.val] w fun e w' => e = .returned (ansV (doE s o) 0 0 (doT s c o)) ∧ GT w' G b (doS s o) (doC s c o) ∧ Fr (SG b G) w w' := by
  obtain ⟨kind, a, b', c', os, ot⟩ := o
  simp only at hk
  subst hk
  have hE : doE s ⟨2, a, b', c', os, ot⟩ = (srv s os).2.1 := by simp [doE, doT, doS, doC]
  have hT : doT s c ⟨2, a, b', c', os, ot⟩ = (srv s os).1 := by simp [doE, doT, doS, doC]
  have hS : doS s ⟨2, a, b', c', os, ot⟩ = (srv s os).2.2 := by simp [doE, doT, doS, doC]
  have hC : doC s c ⟨2, a, b', c', os, ot⟩ = (cntC c (srv s os).2.1) := by simp [doE, doT, doS, doC]
  rw [hE, hT, hS, hC]
  clear hE hT hS hC
  simp only [Stp.val, ansV]
  have H := hid h
  have HL := hid h.lt
  clear h
  have HV := hid (serve_any (H.out.fr (two_fr w _ _) (fun _ _ h => h) : GT ((w.alloc (.cells #[.int .i64 2, .int .i64 a, .int .i64 b', .int .i64 c', .string os, .string ot] 65)).alloc (.cells #[.int .i64 0, .int .i64 0, .int .i64 0, .string ⟨#[]⟩] 68)) G b s c) os)
  go_enter Try.func36, Try.ntmps36
  go_wp2_with fail
  refine HV.out.mono ?_
  rintro e w1 ⟨rfl, hr, hf⟩
  have B := hid (do_box HL.out hf)
  have HR := hid hr
  have HF : Hid (Fr (SG b G) w w1) := ((two_fr w _ _).mono (fun _ _ h => h.elim)).trans hf
  have HPA : Hid (w.heap.size ≤ w.heap.size + 1) := by unfold Hid; omega
  clear hr hf
  generalize w.heap.size + 1 = pa at *
  have c0 := B.out.a0.c
  have c1 := B.out.a1.c
  have c2 := B.out.a2.c
  have c3 := B.out.a3.c
  have f0 := B.out.a0.f
  have f1 := B.out.a1.f
  have f2 := B.out.a2.f
  have f3 := B.out.a3.f
  go_wp2_with fail
  exact retA Try.results36 rfl rfl B.out.a0.has B.out.a1.has B.out.a2.has B.out.a3.has ⟨rfl, HR.out.fr (box_fr _ _ _ _ _ _) (fun i hi e => by have := HL.out i hi; have := HPA.out; omega), HF.out.then (box_fr _ _ _ _ _ _) (fun i hi e => by have := HPA.out; omega)⟩

theorem gdo_show {w : World} {G : Nat} {b : LB} {s : Led} {c : Cts} (h : GT w G b s c) (o : Stp) (hk : o.kind = 3) :
    Calls Try.prog 36 #[.pointer (some ⟨G, 0, none⟩), o.val] w fun e w' => e = .returned (ansV (doE s o) 0 0 (doT s c o)) ∧ GT w' G b (doS s o) (doC s c o) ∧ Fr (SG b G) w w' := by
  obtain ⟨kind, a, b', c', os, ot⟩ := o
  simp only at hk
  subst hk
  have hE : doE s ⟨3, a, b', c', os, ot⟩ = 0 := by simp [doE, doT, doS, doC]
  have hT : doT s c ⟨3, a, b', c', os, ot⟩ = showG s c := by simp [doE, doT, doS, doC]
  have hS : doS s ⟨3, a, b', c', os, ot⟩ = s := by simp [doE, doT, doS, doC]
  have hC : doC s c ⟨3, a, b', c', os, ot⟩ = c := by simp [doE, doT, doS, doC]
  rw [hE, hT, hS, hC]
  clear hE hT hS hC
  simp only [Stp.val, ansV]
  have H := hid h
  have HL := hid h.lt
  clear h
  have HV := hid (gshow_any (H.out.fr (two_fr w _ _) (fun _ _ h => h) : GT ((w.alloc (.cells #[.int .i64 3, .int .i64 a, .int .i64 b', .int .i64 c', .string os, .string ot] 65)).alloc (.cells #[.int .i64 0, .int .i64 0, .int .i64 0, .string ⟨#[]⟩] 68)) G b s c))
  go_enter Try.func36, Try.ntmps36
  go_wp2_with fail
  refine HV.out.mono ?_
  rintro e w1 ⟨rfl, hf0⟩
  have hr := (H.out.fr (two_fr w _ _) (fun _ _ h => h)).fr hf0 (fun _ _ h => h)
  have hf := hf0.mono (S' := SG b G) (fun _ _ h => h.elim)
  have B := hid (do_box HL.out hf)
  have HR := hid hr
  have HF : Hid (Fr (SG b G) w w1) := ((two_fr w _ _).mono (fun _ _ h => h.elim)).trans hf
  have HPA : Hid (w.heap.size ≤ w.heap.size + 1) := by unfold Hid; omega
  clear hr hf hf0
  generalize w.heap.size + 1 = pa at *
  have c0 := B.out.a0.c
  have c1 := B.out.a1.c
  have c2 := B.out.a2.c
  have c3 := B.out.a3.c
  have f0 := B.out.a0.f
  have f1 := B.out.a1.f
  have f2 := B.out.a2.f
  have f3 := B.out.a3.f
  go_wp2_with fail
  exact retA Try.results36 rfl rfl B.out.a0.has B.out.a1.has B.out.a2.has B.out.a3.has ⟨rfl, HR.out.fr (box_fr _ _ _ _ _ _) (fun i hi e => by have := HL.out i hi; have := HPA.out; omega), HF.out.then (box_fr _ _ _ _ _ _) (fun i hi e => by have := HPA.out; omega)⟩

theorem gdo_check {w : World} {G : Nat} {b : LB} {s : Led} {c : Cts} (h : GT w G b s c) (o : Stp) (hk : o.kind = 4) :
    Calls Try.prog 36 #[.pointer (some ⟨G, 0, none⟩), o.val] w fun e w' => e = .returned (ansV (doE s o) 0 0 (doT s c o)) ∧ GT w' G b (doS s o) (doC s c o) ∧ Fr (SG b G) w w' := by
  obtain ⟨kind, a, b', c', os, ot⟩ := o
  simp only at hk
  subst hk
  have hE : doE s ⟨4, a, b', c', os, ot⟩ = 0 := by simp [doE, doT, doS, doC]
  have hT : doT s c ⟨4, a, b', c', os, ot⟩ = ⟨#[]⟩ := by simp [doE, doT, doS, doC]
  have hS : doS s ⟨4, a, b', c', os, ot⟩ = s := by simp [doE, doT, doS, doC]
  have hC : doC s c ⟨4, a, b', c', os, ot⟩ = c := by simp [doE, doT, doS, doC]
  rw [hE, hT, hS, hC]
  clear hE hT hS hC
  simp only [Stp.val, ansV]
  have H := hid h
  have HL := hid h.lt
  clear h
  have HV := hid (gcheck_any (H.out.fr (two_fr w _ _) (fun _ _ h => h) : GT ((w.alloc (.cells #[.int .i64 4, .int .i64 a, .int .i64 b', .int .i64 c', .string os, .string ot] 65)).alloc (.cells #[.int .i64 0, .int .i64 0, .int .i64 0, .string ⟨#[]⟩] 68)) G b s c))
  go_enter Try.func36, Try.ntmps36
  go_wp2_with fail
  refine HV.out.mono ?_
  rintro e w1 ⟨rfl, hf0⟩
  have hr := (H.out.fr (two_fr w _ _) (fun _ _ h => h)).fr hf0 (fun _ _ h => h)
  have hf := hf0.mono (S' := SG b G) (fun _ _ h => h.elim)
  have B := hid (do_box HL.out hf)
  have HR := hid hr
  have HF : Hid (Fr (SG b G) w w1) := ((two_fr w _ _).mono (fun _ _ h => h.elim)).trans hf
  have HPA : Hid (w.heap.size ≤ w.heap.size + 1) := by unfold Hid; omega
  clear hr hf hf0
  generalize w.heap.size + 1 = pa at *
  have c0 := B.out.a0.c
  have c1 := B.out.a1.c
  have c2 := B.out.a2.c
  have c3 := B.out.a3.c
  have f0 := B.out.a0.f
  have f1 := B.out.a1.f
  have f2 := B.out.a2.f
  have f3 := B.out.a3.f
  go_wp2_with fail
  exact retA Try.results36 rfl rfl B.out.a0.has B.out.a1.has B.out.a2.has B.out.a3.has ⟨rfl, HR.out.fr (box_fr _ _ _ _ _ _) (fun i hi e => by have := HL.out i hi; have := HPA.out; omega), HF.out.then (box_fr _ _ _ _ _ _) (fun i hi e => by have := HPA.out; omega)⟩

theorem gdo_none {w : World} {G : Nat} {b : LB} {s : Led} {c : Cts} (h : GT w G b s c) (o : Stp) (h2 : ¬ o.kind = 2) (h3 : ¬ o.kind = 3) (h4 : ¬ o.kind = 4) :
    Calls Try.prog 36 #[.pointer (some ⟨G, 0, none⟩), o.val] w fun e w' => e = .returned (ansV (doE s o) 0 0 (doT s c o)) ∧ GT w' G b (doS s o) (doC s c o) ∧ Fr (SG b G) w w' := by
  obtain ⟨kind, a, b', c', os, ot⟩ := o
  simp only at h2 h3 h4
  have b2 : (kind == 2) = false := beq_eq_false_iff_ne.2 h2
  have b3 : (kind == 3) = false := beq_eq_false_iff_ne.2 h3
  have b4 : (kind == 4) = false := beq_eq_false_iff_ne.2 h4
  have hE : doE s ⟨kind, a, b', c', os, ot⟩ = 0 := by simp [doE, doT, doS, doC, h2, h3]
  have hT : doT s c ⟨kind, a, b', c', os, ot⟩ = ⟨#[]⟩ := by simp [doE, doT, doS, doC, h2, h3]
  have hS : doS s ⟨kind, a, b', c', os, ot⟩ = s := by simp [doE, doT, doS, doC, h2, h3]
  have hC : doC s c ⟨kind, a, b', c', os, ot⟩ = c := by simp [doE, doT, doS, doC, h2, h3]
  rw [hE, hT, hS, hC]
  clear hE hT hS hC h2 h3 h4
  simp only [Stp.val, ansV]
  have H := hid h
  have HL := hid h.lt
  clear h
  go_enter Try.func36, Try.ntmps36
  go_upto_region 1 with fail
  obtain ⟨w1, hw1⟩ : ∃ w1, w1 = (w.alloc (.cells #[.int .i64 kind, .int .i64 a, .int .i64 b', .int .i64 c', .string os, .string ot] 65)).alloc (.cells #[.int .i64 0, .int .i64 0, .int .i64 0, .string ⟨#[]⟩] 68) := ⟨_, rfl⟩
  have hf : Fr (SG b G) ((w.alloc (.cells #[.int .i64 kind, .int .i64 a, .int .i64 b', .int .i64 c', .string os, .string ot] 65)).alloc (.cells #[.int .i64 0, .int .i64 0, .int .i64 0, .string ⟨#[]⟩] 68)) w1 := hw1 ▸ Fr.refl _ _
  have hr : GT w1 G b s c := by rw [hw1]; exact H.out.fr (two_fr w _ _) (fun _ _ h => h)
  have k0 : w1.cell? ⟨w.heap.size, 0, none⟩ = some (.int .i64 kind) := by
    rw [hw1]
    exact ((At.new w #[.int .i64 kind, .int .i64 a, .int .i64 b', .int .i64 c', .string os, .string ot] 65 (o := 0) rfl).fr ((Fr.refl (fun _ => False) _).alloc _) (fun h => h)).c
  rw [← hw1]
  clear hw1
  have B := hid (do_box HL.out hf)
  have HR := hid hr
  have HF : Hid (Fr (SG b G) w w1) := ((two_fr w _ _).mono (fun _ _ h => h.elim)).trans hf
  have HPA : Hid (w.heap.size ≤ w.heap.size + 1) := by unfold Hid; omega
  clear hr hf
  generalize w.heap.size + 1 = pa at *
  have c0 := B.out.a0.c
  have c1 := B.out.a1.c
  have c2 := B.out.a2.c
  have c3 := B.out.a3.c
  have f0 := B.out.a0.f
  have f1 := B.out.a1.f
  have f2 := B.out.a2.f
  have f3 := B.out.a3.f
  go_wp2_with fail
  exact retA Try.results36 rfl rfl B.out.a0.has B.out.a1.has B.out.a2.has B.out.a3.has ⟨rfl, HR.out.fr (box_fr _ _ _ _ _ _) (fun i hi e => by have := HL.out i hi; have := HPA.out; omega), HF.out.then (box_fr _ _ _ _ _ _) (fun i hi e => by have := HPA.out; omega)⟩

theorem gdo_any {w : World} {G : Nat} {b : LB} {s : Led} {c : Cts} (h : GT w G b s c) (o : Stp) :
    Calls Try.prog 36 #[.pointer (some ⟨G, 0, none⟩), o.val] w fun e w' => e = .returned (ansV (doE s o) 0 0 (doT s c o)) ∧ GT w' G b (doS s o) (doC s c o) ∧ Fr (SG b G) w w' := by
  by_cases h2 : o.kind = 2
  · exact gdo_serve h o h2
  by_cases h3 : o.kind = 3
  · exact gdo_show h o h3
  by_cases h4 : o.kind = 4
  · exact gdo_check h o h4
  exact gdo_none h o h2 h3 h4

theorem gdom_serve {w : World} {Q X M : Nat} {s : Led} {c : Cts} (h : GM w Q X M s c) (o : Stp) (hk : o.kind = 2) :
    Calls Try.prog 42 #[.pointer (some ⟨Q, 0, none⟩), o.val] w fun e w' => e = .returned (ansV (doE s o) 0 0 (doT s c o)) ∧ GM w' Q X M (doS s o) (doC s c o) ∧ Fr (SQ X M Q) w w' := by
  obtain ⟨kind, a, b', c', os, ot⟩ := o
  simp only at hk
  subst hk
  have hE : doE s ⟨2, a, b', c', os, ot⟩ = (srv s os).2.1 := by simp [doE, doT, doS, doC]
  have hT : doT s c ⟨2, a, b', c', os, ot⟩ = (srv s os).1 := by simp [doE, doT, doS, doC]
  have hS : doS s ⟨2, a, b', c', os, ot⟩ = (srv s os).2.2 := by simp [doE, doT, doS, doC]
  have hC : doC s c ⟨2, a, b', c', os, ot⟩ = (cntC c (srv s os).2.1) := by simp [doE, doT, doS, doC]
  rw [hE, hT, hS, hC]
  clear hE hT hS hC
  simp only [Stp.val, ansV]
  have H := hid h
  have HL := hid h.lt
  clear h
  have HV := hid (mserve_any (H.out.fr (two_fr w _ _) (fun _ _ h => h) : GM ((w.alloc (.cells #[.int .i64 2, .int .i64 a, .int .i64 b', .int .i64 c', .string os, .string ot] 65)).alloc (.cells #[.int .i64 0, .int .i64 0, .int .i64 0, .string ⟨#[]⟩] 68)) Q X M s c) os)
  go_enter Try.func42, Try.ntmps42
  go_wp2_with fail
  refine HV.out.mono ?_
  rintro e w1 ⟨rfl, hr, hf⟩
  have B := hid (do_box HL.out hf)
  have HR := hid hr
  have HF : Hid (Fr (SQ X M Q) w w1) := ((two_fr w _ _).mono (fun _ _ h => h.elim)).trans hf
  have HPA : Hid (w.heap.size ≤ w.heap.size + 1) := by unfold Hid; omega
  clear hr hf
  generalize w.heap.size + 1 = pa at *
  have c0 := B.out.a0.c
  have c1 := B.out.a1.c
  have c2 := B.out.a2.c
  have c3 := B.out.a3.c
  have f0 := B.out.a0.f
  have f1 := B.out.a1.f
  have f2 := B.out.a2.f
  have f3 := B.out.a3.f
  go_wp2_with fail
  exact retA Try.results42 rfl rfl B.out.a0.has B.out.a1.has B.out.a2.has B.out.a3.has ⟨rfl, HR.out.fr (box_fr _ _ _ _ _ _) (fun i hi e => by have := HL.out i hi; have := HPA.out; omega), HF.out.then (box_fr _ _ _ _ _ _) (fun i hi e => by have := HPA.out; omega)⟩

theorem gdom_show {w : World} {Q X M : Nat} {s : Led} {c : Cts} (h : GM w Q X M s c) (o : Stp) (hk : o.kind = 3) :
    Calls Try.prog 42 #[.pointer (some ⟨Q, 0, none⟩), o.val] w fun e w' => e = .returned (ansV (doE s o) 0 0 (doT s c o)) ∧ GM w' Q X M (doS s o) (doC s c o) ∧ Fr (SQ X M Q) w w' := by
  obtain ⟨kind, a, b', c', os, ot⟩ := o
  simp only at hk
  subst hk
  have hE : doE s ⟨3, a, b', c', os, ot⟩ = 0 := by simp [doE, doT, doS, doC]
  have hT : doT s c ⟨3, a, b', c', os, ot⟩ = showG s c := by simp [doE, doT, doS, doC]
  have hS : doS s ⟨3, a, b', c', os, ot⟩ = s := by simp [doE, doT, doS, doC]
  have hC : doC s c ⟨3, a, b', c', os, ot⟩ = c := by simp [doE, doT, doS, doC]
  rw [hE, hT, hS, hC]
  clear hE hT hS hC
  simp only [Stp.val, ansV]
  have H := hid h
  have HL := hid h.lt
  clear h
  have HV := hid (mgshow_any (H.out.fr (two_fr w _ _) (fun _ _ h => h) : GM ((w.alloc (.cells #[.int .i64 3, .int .i64 a, .int .i64 b', .int .i64 c', .string os, .string ot] 65)).alloc (.cells #[.int .i64 0, .int .i64 0, .int .i64 0, .string ⟨#[]⟩] 68)) Q X M s c))
  go_enter Try.func42, Try.ntmps42
  go_wp2_with fail
  refine HV.out.mono ?_
  rintro e w1 ⟨rfl, hf0⟩
  have hr := (H.out.fr (two_fr w _ _) (fun _ _ h => h)).fr hf0 (fun _ _ h => h)
  have hf := hf0.mono (S' := SQ X M Q) (fun _ _ h => h.elim)
  have B := hid (do_box HL.out hf)
  have HR := hid hr
  have HF : Hid (Fr (SQ X M Q) w w1) := ((two_fr w _ _).mono (fun _ _ h => h.elim)).trans hf
  have HPA : Hid (w.heap.size ≤ w.heap.size + 1) := by unfold Hid; omega
  clear hr hf hf0
  generalize w.heap.size + 1 = pa at *
  have c0 := B.out.a0.c
  have c1 := B.out.a1.c
  have c2 := B.out.a2.c
  have c3 := B.out.a3.c
  have f0 := B.out.a0.f
  have f1 := B.out.a1.f
  have f2 := B.out.a2.f
  have f3 := B.out.a3.f
  go_wp2_with fail
  exact retA Try.results42 rfl rfl B.out.a0.has B.out.a1.has B.out.a2.has B.out.a3.has ⟨rfl, HR.out.fr (box_fr _ _ _ _ _ _) (fun i hi e => by have := HL.out i hi; have := HPA.out; omega), HF.out.then (box_fr _ _ _ _ _ _) (fun i hi e => by have := HPA.out; omega)⟩

theorem gdom_none {w : World} {Q X M : Nat} {s : Led} {c : Cts} (h : GM w Q X M s c) (o : Stp) (h2 : ¬ o.kind = 2) (h3 : ¬ o.kind = 3) :
    Calls Try.prog 42 #[.pointer (some ⟨Q, 0, none⟩), o.val] w fun e w' => e = .returned (ansV (doE s o) 0 0 (doT s c o)) ∧ GM w' Q X M (doS s o) (doC s c o) ∧ Fr (SQ X M Q) w w' := by
  obtain ⟨kind, a, b', c', os, ot⟩ := o
  simp only at h2 h3
  have b2 : (kind == 2) = false := beq_eq_false_iff_ne.2 h2
  have b3 : (kind == 3) = false := beq_eq_false_iff_ne.2 h3
  have hE : doE s ⟨kind, a, b', c', os, ot⟩ = 0 := by simp [doE, doT, doS, doC, h2, h3]
  have hT : doT s c ⟨kind, a, b', c', os, ot⟩ = ⟨#[]⟩ := by simp [doE, doT, doS, doC, h2, h3]
  have hS : doS s ⟨kind, a, b', c', os, ot⟩ = s := by simp [doE, doT, doS, doC, h2, h3]
  have hC : doC s c ⟨kind, a, b', c', os, ot⟩ = c := by simp [doE, doT, doS, doC, h2, h3]
  rw [hE, hT, hS, hC]
  clear hE hT hS hC h2 h3
  simp only [Stp.val, ansV]
  have H := hid h
  have HL := hid h.lt
  clear h
  go_enter Try.func42, Try.ntmps42
  go_upto_region 1 with fail
  obtain ⟨w1, hw1⟩ : ∃ w1, w1 = (w.alloc (.cells #[.int .i64 kind, .int .i64 a, .int .i64 b', .int .i64 c', .string os, .string ot] 65)).alloc (.cells #[.int .i64 0, .int .i64 0, .int .i64 0, .string ⟨#[]⟩] 68) := ⟨_, rfl⟩
  have hf : Fr (SQ X M Q) ((w.alloc (.cells #[.int .i64 kind, .int .i64 a, .int .i64 b', .int .i64 c', .string os, .string ot] 65)).alloc (.cells #[.int .i64 0, .int .i64 0, .int .i64 0, .string ⟨#[]⟩] 68)) w1 := hw1 ▸ Fr.refl _ _
  have hr : GM w1 Q X M s c := by rw [hw1]; exact H.out.fr (two_fr w _ _) (fun _ _ h => h)
  have k0 : w1.cell? ⟨w.heap.size, 0, none⟩ = some (.int .i64 kind) := by
    rw [hw1]
    exact ((At.new w #[.int .i64 kind, .int .i64 a, .int .i64 b', .int .i64 c', .string os, .string ot] 65 (o := 0) rfl).fr ((Fr.refl (fun _ => False) _).alloc _) (fun h => h)).c
  rw [← hw1]
  clear hw1
  have B := hid (do_box HL.out hf)
  have HR := hid hr
  have HF : Hid (Fr (SQ X M Q) w w1) := ((two_fr w _ _).mono (fun _ _ h => h.elim)).trans hf
  have HPA : Hid (w.heap.size ≤ w.heap.size + 1) := by unfold Hid; omega
  clear hr hf
  generalize w.heap.size + 1 = pa at *
  have c0 := B.out.a0.c
  have c1 := B.out.a1.c
  have c2 := B.out.a2.c
  have c3 := B.out.a3.c
  have f0 := B.out.a0.f
  have f1 := B.out.a1.f
  have f2 := B.out.a2.f
  have f3 := B.out.a3.f
  go_wp2_with fail
  exact retA Try.results42 rfl rfl B.out.a0.has B.out.a1.has B.out.a2.has B.out.a3.has ⟨rfl, HR.out.fr (box_fr _ _ _ _ _ _) (fun i hi e => by have := HL.out i hi; have := HPA.out; omega), HF.out.then (box_fr _ _ _ _ _ _) (fun i hi e => by have := HPA.out; omega)⟩

theorem gdom_any {w : World} {Q X M : Nat} {s : Led} {c : Cts} (h : GM w Q X M s c) (o : Stp) :
    Calls Try.prog 42 #[.pointer (some ⟨Q, 0, none⟩), o.val] w fun e w' => e = .returned (ansV (doE s o) 0 0 (doT s c o)) ∧ GM w' Q X M (doS s o) (doC s c o) ∧ Fr (SQ X M Q) w w' := by
  by_cases h2 : o.kind = 2
  · exact gdom_serve h o h2
  by_cases h3 : o.kind = 3
  · exact gdom_show h o h3
  exact gdom_none h o h2 h3

end Go.Proofs.Qxb6500452a
