/- The player DoM. -/
import Derived.Test.Qxb6500453aYDo
import Derived.Test.Qxb6500453aWBatch
namespace Go.Proofs.Qxb6500453a
open Go Go.RowKit
set_option maxRecDepth 100000
set_option maxHeartbeats 1600000
set_option linter.unusedSimpArgs false
set_option linter.unusedVariables false

theorem dom_bal {w : World} {X M : Nat} {s : Led} (h : ML w X M s) (o : Stp) (hk : o.kind = 2) :
    Calls Try.prog 61 #[.pointer (some ⟨X, 0, none⟩), o.val] w fun e w' => e = .returned (doV s o) ∧ ML w' X M (doS s o) ∧ Fr (SM X M) w w' := by
  obtain ⟨kind, a, b', c, os, ot⟩ := o
  simp only at hk
  subst hk
  have hV : doV s ⟨2, a, b', c, os, ot⟩ = ansV (acqE s a) (balN s a) 0 ⟨#[]⟩ := by simp [doV, doE, doN, doT]
  have hD : doS s ⟨2, a, b', c, os, ot⟩ = oneS s a := by simp [doS]
  rw [hV, hD]
  clear hV hD
  simp only [Stp.val, ansV]
  have H := hid h
  have HL := hid h.lt
  have hmf : ∀ (fn : Fn) (first cap : Array Value) (w : World), (Instr.makeFunc fn first cap).run Try.prog w = .ok (.func fn first cap) w := fun _ _ _ _ => rfl
  clear h
  go_enter_defers Try.func61, Try.ntmps61
  go_wp2_with fail
  refine (mbalance_any (H.out.fr (two_fr w _ _) (fun _ _ h => h)) a).mono ?_
  rintro e w1 ⟨rfl, hr, hf⟩
  have B := hid (do_box HL.out hf)
  have HR := hid hr
  have HF : Hid (Fr (SM X M) w w1) := ((two_fr w _ _).mono (fun _ _ h => h.elim)).trans hf
  have HPA : Hid (w.heap.size ≤ w.heap.size + 1) := by unfold Hid; omega
  clear hr hf
  generalize w.heap.size + 1 = pa at *
  have c0 := B.out.a0.c
  have c1 := B.out.a1.c
  have c2 := B.out.a2.c
  have c3 := B.out.a3.c
  have f0 := B.out.a0.f
  have f1 := B.out.a1.f
  have f2 := B.out.a2.f
  have f3 := B.out.a3.f
  go_wp2_with fail
  refine mec_leave Try.results61 rfl ((B.out.a0.has.set _ _ _).set _ _ _) ((B.out.a1.has.set _ _ _).set _ _ _) ((B.out.a2.has.set _ _ _).set _ _ _) ((B.out.a3.has.set _ _ _).set _ _ _) ⟨rfl, HR.out.fr (S := fun i => i = pa) (in_fr _ _ _ (in_fr _ _ _ (in_fr _ _ _ (in_fr _ _ _ (in_fr _ _ _ (in_fr _ _ _ (Fr.refl _ w1))))))) (fun i hi e => by have := HL.out i hi; have := HPA.out; omega), HF.out.then (S' := fun i => i = pa) (in_fr _ _ _ (in_fr _ _ _ (in_fr _ _ _ (in_fr _ _ _ (in_fr _ _ _ (in_fr _ _ _ (Fr.refl _ w1))))))) (fun i hi e => by have := HPA.out; omega)⟩

theorem dom_tr {w : World} {X M : Nat} {s : Led} (h : ML w X M s) (o : Stp) (hk : o.kind = 3) :
    Calls Try.prog 61 #[.pointer (some ⟨X, 0, none⟩), o.val] w fun e w' => e = .returned (doV s o) ∧ ML w' X M (doS s o) ∧ Fr (SM X M) w w' := by
  obtain ⟨kind, a, b', c, os, ot⟩ := o
  simp only at hk
  subst hk
  have hV : doV s ⟨3, a, b', c, os, ot⟩ = ansV (trE s a b' c) (trN s a b' c) 0 ⟨#[]⟩ := by simp [doV, doE, doN, doT]
  have hD : doS s ⟨3, a, b', c, os, ot⟩ = trS s a b' c := by simp [doS]
  rw [hV, hD]
  clear hV hD
  simp only [Stp.val, ansV]
  have H := hid h
  have HL := hid h.lt
  have hmf : ∀ (fn : Fn) (first cap : Array Value) (w : World), (Instr.makeFunc fn first cap).run Try.prog w = .ok (.func fn first cap) w := fun _ _ _ _ => rfl
  clear h
  go_enter_defers Try.func61, Try.ntmps61
  go_wp2_with fail
  refine (mtransfer_any (H.out.fr (two_fr w _ _) (fun _ _ h => h)) a b' c).mono ?_
  rintro e w1 ⟨rfl, hr, hf⟩
  have B := hid (do_box HL.out hf)
  have HR := hid hr
  have HF : Hid (Fr (SM X M) w w1) := ((two_fr w _ _).mono (fun _ _ h => h.elim)).trans hf
  have HPA : Hid (w.heap.size ≤ w.heap.size + 1) := by unfold Hid; omega
  clear hr hf
  generalize w.heap.size + 1 = pa at *
  have c0 := B.out.a0.c
  have c1 := B.out.a1.c
  have c2 := B.out.a2.c
  have c3 := B.out.a3.c
  have f0 := B.out.a0.f
  have f1 := B.out.a1.f
  have f2 := B.out.a2.f
  have f3 := B.out.a3.f
  go_wp2_with fail
  refine mec_leave Try.results61 rfl ((B.out.a0.has.set _ _ _).set _ _ _) ((B.out.a1.has.set _ _ _).set _ _ _) ((B.out.a2.has.set _ _ _).set _ _ _) ((B.out.a3.has.set _ _ _).set _ _ _) ⟨rfl, HR.out.fr (S := fun i => i = pa) (in_fr _ _ _ (in_fr _ _ _ (in_fr _ _ _ (in_fr _ _ _ (in_fr _ _ _ (in_fr _ _ _ (Fr.refl _ w1))))))) (fun i hi e => by have := HL.out i hi; have := HPA.out; omega), HF.out.then (S' := fun i => i = pa) (in_fr _ _ _ (in_fr _ _ _ (in_fr _ _ _ (in_fr _ _ _ (in_fr _ _ _ (in_fr _ _ _ (Fr.refl _ w1))))))) (fun i hi e => by have := HPA.out; omega)⟩

theorem dom_spl {w : World} {X M : Nat} {s : Led} (h : ML w X M s) (o : Stp) (hk : o.kind = 4) (hz : ¬ divZ s o) :
    Calls Try.prog 61 #[.pointer (some ⟨X, 0, none⟩), o.val] w fun e w' => e = .returned (doV s o) ∧ ML w' X M (doS s o) ∧ Fr (SM X M) w w' := by
  obtain ⟨kind, a, b', c, os, ot⟩ := o
  simp only at hk
  subst hk
  have hV : doV s ⟨4, a, b', c, os, ot⟩ = ansV (splE s a b') (splN s a b') 0 ⟨#[]⟩ := by simp [doV, doE, doN, doT, hz]
  have hD : doS s ⟨4, a, b', c, os, ot⟩ = splS s a b' := by simp [doS, hz]
  rw [hV, hD]
  clear hV hD
  simp only [Stp.val, ansV]
  have H := hid h
  have HL := hid h.lt
  have hmf : ∀ (fn : Fn) (first cap : Array Value) (w : World), (Instr.makeFunc fn first cap).run Try.prog w = .ok (.func fn first cap) w := fun _ _ _ _ => rfl
  clear h
  have hz' : ¬ (b' = 0 ∧ acqE s a = 0) := hz
  have HZ := hid hz'
  clear hz hz'
  go_enter_defers Try.func61, Try.ntmps61
  go_wp2_with fail
  refine (msplit_any (H.out.fr (two_fr w _ _) (fun _ _ h => h)) a b' HZ.out).mono ?_
  rintro e w1 ⟨rfl, hr, hf⟩
  have B := hid (do_box HL.out hf)
  have HR := hid hr
  have HF : Hid (Fr (SM X M) w w1) := ((two_fr w _ _).mono (fun _ _ h => h.elim)).trans hf
  have HPA : Hid (w.heap.size ≤ w.heap.size + 1) := by unfold Hid; omega
  clear hr hf
  generalize w.heap.size + 1 = pa at *
  have c0 := B.out.a0.c
  have c1 := B.out.a1.c
  have c2 := B.out.a2.c
  have c3 := B.out.a3.c
  have f0 := B.out.a0.f
  have f1 := B.out.a1.f
  have f2 := B.out.a2.f
  have f3 := B.out.a3.f
  go_wp2_with fail
  refine mec_leave Try.results61 rfl ((B.out.a0.has.set _ _ _).set _ _ _) ((B.out.a1.has.set _ _ _).set _ _ _) ((B.out.a2.has.set _ _ _).set _ _ _) ((B.out.a3.has.set _ _ _).set _ _ _) ⟨rfl, HR.out.fr (S := fun i => i = pa) (in_fr _ _ _ (in_fr _ _ _ (in_fr _ _ _ (in_fr _ _ _ (in_fr _ _ _ (in_fr _ _ _ (Fr.refl _ w1))))))) (fun i hi e => by have := HL.out i hi; have := HPA.out; omega), HF.out.then (S' := fun i => i = pa) (in_fr _ _ _ (in_fr _ _ _ (in_fr _ _ _ (in_fr _ _ _ (in_fr _ _ _ (in_fr _ _ _ (Fr.refl _ w1))))))) (fun i hi e => by have := HPA.out; omega)⟩

theorem dom_spz {w : World} {X M : Nat} {s : Led} (h : ML w X M s) (o : Stp) (hk : o.kind = 4) (hz : divZ s o) :
    Calls Try.prog 61 #[.pointer (some ⟨X, 0, none⟩), o.val] w fun e w' => e = .returned (doV s o) ∧ ML w' X M (doS s o) ∧ Fr (SM X M) w w' := by
  obtain ⟨kind, a, b', c, os, ot⟩ := o
  simp only at hk
  subst hk
  have hV : doV s ⟨4, a, b', c, os, ot⟩ = ansV 10 0 0 ⟨#[]⟩ := by simp [doV, doE, doN, doT, hz]
  have hD : doS s ⟨4, a, b', c, os, ot⟩ = oneS s a := by simp [doS, hz]
  rw [hV, hD]
  clear hV hD
  simp only [Stp.val, ansV]
  have H := hid h
  have HL := hid h.lt
  have hmf : ∀ (fn : Fn) (first cap : Array Value) (w : World), (Instr.makeFunc fn first cap).run Try.prog w = .ok (.func fn first cap) w := fun _ _ _ _ => rfl
  clear h
  obtain ⟨hb0, hz'⟩ := hz
  simp only at hb0 hz'
  subst hb0
  have HZ := hid hz'
  clear hz'
  go_enter_defers Try.func61, Try.ntmps61
  go_wp2_with fail
  refine (msplit_zero (H.out.fr (two_fr w _ _) (fun _ _ h => h)) HZ.out).mono ?_
  rintro e w1 ⟨rfl, hr, hf⟩
  have B := hid (do_box HL.out hf)
  have HR := hid hr
  have HF : Hid (Fr (SM X M) w w1) := ((two_fr w _ _).mono (fun _ _ h => h.elim)).trans hf
  have HPA : Hid (w.heap.size ≤ w.heap.size + 1) := by unfold Hid; omega
  clear hr hf
  generalize w.heap.size + 1 = pa at *
  go_wp2_with fail
  refine mec_leave_panic Try.results61 rfl B.out rfl (fun w' hf => ⟨rfl, HR.out.fr hf (fun i hi e => by have := HL.out i hi; have := HPA.out; omega), HF.out.then hf (fun i hi e => by have := HPA.out; omega)⟩)

theorem dom_bat {w : World} {X M : Nat} {s : Led} (h : ML w X M s) (o : Stp) (hk : o.kind = 5) :
    Calls Try.prog 61 #[.pointer (some ⟨X, 0, none⟩), o.val] w fun e w' => e = .returned (doV s o) ∧ ML w' X M (doS s o) ∧ Fr (SM X M) w w' := by
  obtain ⟨kind, a, b', c, os, ot⟩ := o
  simp only at hk
  subst hk
  have hV : doV s ⟨5, a, b', c, os, ot⟩ = ansV (batE s (movs os a b' c)) (batN s (movs os a b' c)) 0 ⟨#[]⟩ := by simp [doV, doE, doN, doT]
  have hD : doS s ⟨5, a, b', c, os, ot⟩ = batS s (movs os a b' c) := by simp [doS]
  rw [hV, hD]
  clear hV hD
  simp only [Stp.val, ansV]
  have H := hid h
  have HL := hid h.lt
  have hmf : ∀ (fn : Fn) (first cap : Array Value) (w : World), (Instr.makeFunc fn first cap).run Try.prog w = .ok (.func fn first cap) w := fun _ _ _ _ => rfl
  clear h
  go_enter_defers Try.func61, Try.ntmps61
  go_wp2_with fail
  refine (moves_any os a b' c _).mono ?_
  rintro e w0 ⟨v, rfl, ow, f0⟩
  obtain ⟨x, cap, rfl, mv, hx⟩ := ow.mvs
  have MV := hid mv
  have HX := hid hx
  have F0 := hid f0
  clear ow mv hx f0
  go_wp2_with fail
  refine (mbatch_any ((H.out.fr (two_fr w _ _) (fun _ _ h => h)).fr F0.out (fun _ _ h => h)) MV.out (fun B off e c => by have h1 := HX.out B off e; have h2 := HL.out _ c; simp only [World.size_alloc] at h1; omega) cap).mono ?_
  rintro e w1 ⟨rfl, hr, hf1⟩
  have hf := (F0.out.mono (S' := SM X M) (fun _ _ h => h.elim)).trans hf1
  clear hf1 F0 MV HX
  have B := hid (do_box HL.out hf)
  have HR := hid hr
  have HF : Hid (Fr (SM X M) w w1) := ((two_fr w _ _).mono (fun _ _ h => h.elim)).trans hf
  have HPA : Hid (w.heap.size ≤ w.heap.size + 1) := by unfold Hid; omega
  clear hr hf
  generalize w.heap.size + 1 = pa at *
  have c0 := B.out.a0.c
  have c1 := B.out.a1.c
  have c2 := B.out.a2.c
  have c3 := B.out.a3.c
  have f0 := B.out.a0.f
  have f1 := B.out.a1.f
  have f2 := B.out.a2.f
  have f3 := B.out.a3.f
  go_wp2_with fail
  refine mec_leave Try.results61 rfl ((B.out.a0.has.set _ _ _).set _ _ _) ((B.out.a1.has.set _ _ _).set _ _ _) ((B.out.a2.has.set _ _ _).set _ _ _) ((B.out.a3.has.set _ _ _).set _ _ _) ⟨rfl, HR.out.fr (S := fun i => i = pa) (in_fr _ _ _ (in_fr _ _ _ (in_fr _ _ _ (in_fr _ _ _ (in_fr _ _ _ (in_fr _ _ _ (Fr.refl _ w1))))))) (fun i hi e => by have := HL.out i hi; have := HPA.out; omega), HF.out.then (S' := fun i => i = pa) (in_fr _ _ _ (in_fr _ _ _ (in_fr _ _ _ (in_fr _ _ _ (in_fr _ _ _ (in_fr _ _ _ (Fr.refl _ w1))))))) (fun i hi e => by have := HPA.out; omega)⟩

theorem dom_cen {w : World} {X M : Nat} {s : Led} (h : ML w X M s) (o : Stp) (hk : o.kind = 11) :
    Calls Try.prog 61 #[.pointer (some ⟨X, 0, none⟩), o.val] w fun e w' => e = .returned (doV s o) ∧ ML w' X M (doS s o) ∧ Fr (SM X M) w w' := by
  obtain ⟨kind, a, b', c, os, ot⟩ := o
  simp only at hk
  subst hk
  have hV : doV s ⟨11, a, b', c, os, ot⟩ = ansV (cenA s).2.1 (cenA s).1 0 ⟨#[]⟩ := by simp [doV, doE, doN, doT]
  have hD : doS s ⟨11, a, b', c, os, ot⟩ = cenS s := by simp [doS]
  rw [hV, hD]
  clear hV hD
  simp only [Stp.val, ansV]
  have H := hid h
  have HL := hid h.lt
  have hmf : ∀ (fn : Fn) (first cap : Array Value) (w : World), (Instr.makeFunc fn first cap).run Try.prog w = .ok (.func fn first cap) w := fun _ _ _ _ => rfl
  clear h
  go_enter_defers Try.func61, Try.ntmps61
  go_wp2_with fail
  refine (mcensus_any (H.out.fr (two_fr w _ _) (fun _ _ h => h))).mono ?_
  rintro e w1 ⟨rfl, hr, hf⟩
  have B := hid (do_box HL.out hf)
  have HR := hid hr
  have HF : Hid (Fr (SM X M) w w1) := ((two_fr w _ _).mono (fun _ _ h => h.elim)).trans hf
  have HPA : Hid (w.heap.size ≤ w.heap.size + 1) := by unfold Hid; omega
  clear hr hf
  generalize w.heap.size + 1 = pa at *
  have c0 := B.out.a0.c
  have c1 := B.out.a1.c
  have c2 := B.out.a2.c
  have c3 := B.out.a3.c
  have f0 := B.out.a0.f
  have f1 := B.out.a1.f
  have f2 := B.out.a2.f
  have f3 := B.out.a3.f
  go_wp2_with fail
  refine mec_leave Try.results61 rfl ((B.out.a0.has.set _ _ _).set _ _ _) ((B.out.a1.has.set _ _ _).set _ _ _) ((B.out.a2.has.set _ _ _).set _ _ _) ((B.out.a3.has.set _ _ _).set _ _ _) ⟨rfl, HR.out.fr (S := fun i => i = pa) (in_fr _ _ _ (in_fr _ _ _ (in_fr _ _ _ (in_fr _ _ _ (in_fr _ _ _ (in_fr _ _ _ (Fr.refl _ w1))))))) (fun i hi e => by have := HL.out i hi; have := HPA.out; omega), HF.out.then (S' := fun i => i = pa) (in_fr _ _ _ (in_fr _ _ _ (in_fr _ _ _ (in_fr _ _ _ (in_fr _ _ _ (in_fr _ _ _ (Fr.refl _ w1))))))) (fun i hi e => by have := HPA.out; omega)⟩

theorem dom_aud {w : World} {X M : Nat} {s : Led} (h : ML w X M s) (o : Stp) (hk : o.kind = 6) :
    Calls Try.prog 61 #[.pointer (some ⟨X, 0, none⟩), o.val] w fun e w' => e = .returned (doV s o) ∧ ML w' X M (doS s o) ∧ Fr (SM X M) w w' := by
  obtain ⟨kind, a, b', c, os, ot⟩ := o
  simp only at hk
  subst hk
  have hV : doV s ⟨6, a, b', c, os, ot⟩ = ansV 0 400 0 ⟨#[]⟩ := by simp [doV, doE, doN, doT]
  have hD : doS s ⟨6, a, b', c, os, ot⟩ = s := by simp [doS]
  rw [hV, hD]
  clear hV hD
  simp only [Stp.val, ansV]
  have H := hid h
  have HL := hid h.lt
  have hmf : ∀ (fn : Fn) (first cap : Array Value) (w : World), (Instr.makeFunc fn first cap).run Try.prog w = .ok (.func fn first cap) w := fun _ _ _ _ => rfl
  clear h
  go_enter_defers Try.func61, Try.ntmps61
  go_wp2_with fail
  refine (maudit_any (H.out.fr (two_fr w _ _) (fun _ _ h => h))).mono ?_
  rintro e w1 ⟨rfl, hw1⟩
  have hf0 := fr_eq (fun _ => False) hw1
  clear hw1
  have hr := (H.out.fr (two_fr w _ _) (fun _ _ h => h)).fr hf0 (fun _ _ h => h)
  have hf := hf0.mono (S' := SM X M) (fun _ _ h => h.elim)
  clear hf0
  have B := hid (do_box HL.out hf)
  have HR := hid hr
  have HF : Hid (Fr (SM X M) w w1) := ((two_fr w _ _).mono (fun _ _ h => h.elim)).trans hf
  have HPA : Hid (w.heap.size ≤ w.heap.size + 1) := by unfold Hid; omega
  clear hr hf
  generalize w.heap.size + 1 = pa at *
  have c0 := B.out.a0.c
  have c1 := B.out.a1.c
  have c2 := B.out.a2.c
  have c3 := B.out.a3.c
  have f0 := B.out.a0.f
  have f1 := B.out.a1.f
  have f2 := B.out.a2.f
  have f3 := B.out.a3.f
  go_wp2_with fail
  refine mec_leave Try.results61 rfl (B.out.a0.has.set _ _ _) (B.out.a1.has.set _ _ _) (B.out.a2.has.set _ _ _) (B.out.a3.has.set _ _ _) ⟨rfl, HR.out.fr (S := fun i => i = pa) (in_fr _ _ _ (in_fr _ _ _ (in_fr _ _ _ (in_fr _ _ _ (in_fr _ _ _ (Fr.refl _ w1)))))) (fun i hi e => by have := HL.out i hi; have := HPA.out; omega), HF.out.then (S' := fun i => i = pa) (in_fr _ _ _ (in_fr _ _ _ (in_fr _ _ _ (in_fr _ _ _ (in_fr _ _ _ (Fr.refl _ w1)))))) (fun i hi e => by have := HPA.out; omega)⟩

theorem dom_show {w : World} {X M : Nat} {s : Led} (h : ML w X M s) (o : Stp) (hk : o.kind = 7) :
    Calls Try.prog 61 #[.pointer (some ⟨X, 0, none⟩), o.val] w fun e w' => e = .returned (doV s o) ∧ ML w' X M (doS s o) ∧ Fr (SM X M) w w' := by
  obtain ⟨kind, a, b', c, os, ot⟩ := o
  simp only at hk
  subst hk
  have hV : doV s ⟨7, a, b', c, os, ot⟩ = ansV 0 0 0 (L.bs (showD s)) := by simp [doV, doE, doN, doT]
  have hD : doS s ⟨7, a, b', c, os, ot⟩ = s := by simp [doS]
  rw [hV, hD]
  clear hV hD
  simp only [Stp.val, ansV]
  have H := hid h
  have HL := hid h.lt
  have hmf : ∀ (fn : Fn) (first cap : Array Value) (w : World), (Instr.makeFunc fn first cap).run Try.prog w = .ok (.func fn first cap) w := fun _ _ _ _ => rfl
  clear h
  go_enter_defers Try.func61, Try.ntmps61
  go_wp2_with fail
  refine (mlshow_any (H.out.fr (two_fr w _ _) (fun _ _ h => h))).mono ?_
  rintro e w1 ⟨rfl, hf0⟩
  have hr := (H.out.fr (two_fr w _ _) (fun _ _ h => h)).fr hf0 (fun _ _ h => h)
  have hf := hf0.mono (S' := SM X M) (fun _ _ h => h.elim)
  clear hf0
  have B := hid (do_box HL.out hf)
  have HR := hid hr
  have HF : Hid (Fr (SM X M) w w1) := ((two_fr w _ _).mono (fun _ _ h => h.elim)).trans hf
  have HPA : Hid (w.heap.size ≤ w.heap.size + 1) := by unfold Hid; omega
  clear hr hf
  generalize w.heap.size + 1 = pa at *
  have c0 := B.out.a0.c
  have c1 := B.out.a1.c
  have c2 := B.out.a2.c
  have c3 := B.out.a3.c
  have f0 := B.out.a0.f
  have f1 := B.out.a1.f
  have f2 := B.out.a2.f
  have f3 := B.out.a3.f
  go_wp2_with fail
  refine mec_leave Try.results61 rfl (B.out.a0.has.set _ _ _) (B.out.a1.has.set _ _ _) (B.out.a2.has.set _ _ _) (B.out.a3.has.set _ _ _) ⟨rfl, HR.out.fr (S := fun i => i = pa) (in_fr _ _ _ (in_fr _ _ _ (in_fr _ _ _ (in_fr _ _ _ (in_fr _ _ _ (Fr.refl _ w1)))))) (fun i hi e => by have := HL.out i hi; have := HPA.out; omega), HF.out.then (S' := fun i => i = pa) (in_fr _ _ _ (in_fr _ _ _ (in_fr _ _ _ (in_fr _ _ _ (in_fr _ _ _ (Fr.refl _ w1)))))) (fun i hi e => by have := HPA.out; omega)⟩

theorem dom_any {w : World} {X M : Nat} {s : Led} (h : ML w X M s) (o : Stp) :
    Calls Try.prog 61 #[.pointer (some ⟨X, 0, none⟩), o.val] w fun e w' => e = .returned (doV s o) ∧ ML w' X M (doS s o) ∧ Fr (SM X M) w w' := by
  by_cases k2 : o.kind = 2
  · exact dom_bal h o k2
  by_cases k3 : o.kind = 3
  · exact dom_tr h o k3
  by_cases k5 : o.kind = 5
  · exact dom_bat h o k5
  by_cases k11 : o.kind = 11
  · exact dom_cen h o k11
  by_cases k6 : o.kind = 6
  · exact dom_aud h o k6
  by_cases k7 : o.kind = 7
  · exact dom_show h o k7
  by_cases k4 : o.kind = 4
  · by_cases hz : divZ s o
    · exact dom_spz h o k4 hz
    · exact dom_spl h o k4 hz
  have hV : doV s o = ansV 0 0 0 ⟨#[]⟩ := by simp [doV, doE, doN, doT, k2, k3, k5, k11, k6, k7, k4]
  have hD : doS s o = s := by simp [doS, k2, k3, k5, k11, k6, k7, k4]
  rw [hV, hD]
  clear hV hD
  obtain ⟨kind, a, b', c, os, ot⟩ := o
  simp only at k2 k3 k5 k11 k6 k7 k4
  simp only [Stp.val, ansV]
  have H := hid h
  have HL := hid h.lt
  have hmf : ∀ (fn : Fn) (first cap : Array Value) (w : World), (Instr.makeFunc fn first cap).run Try.prog w = .ok (.func fn first cap) w := fun _ _ _ _ => rfl
  have hf : Fr (SM X M) ((w.alloc (.cells #[.int .i64 kind, .int .i64 a, .int .i64 b', .int .i64 c, .string os, .string ot] 49)).alloc (.cells #[.int .i64 0, .int .i64 0, .int .i64 0, .string ⟨#[]⟩] 51)) _ := Fr.refl _ _
  have B0 := hid (do_box HL.out hf)
  have HF : Hid (Fr (SM X M) w ((w.alloc (.cells #[.int .i64 kind, .int .i64 a, .int .i64 b', .int .i64 c, .string os, .string ot] 49)).alloc (.cells #[.int .i64 0, .int .i64 0, .int .i64 0, .string ⟨#[]⟩] 51))) := (two_fr w _ _).mono (fun _ _ h => h.elim)
  have HR := hid (H.out.fr (two_fr w (.cells #[.int .i64 kind, .int .i64 a, .int .i64 b', .int .i64 c, .string os, .string ot] 49) (.cells #[.int .i64 0, .int .i64 0, .int .i64 0, .string ⟨#[]⟩] 51)) (fun _ _ h => h))
  clear h hf
  have j2 : (kind == 2) = false := beq_eq_false_iff_ne.2 k2
  have j3 : (kind == 3) = false := beq_eq_false_iff_ne.2 k3
  have j5 : (kind == 5) = false := beq_eq_false_iff_ne.2 k5
  have j11 : (kind == 11) = false := beq_eq_false_iff_ne.2 k11
  have j6 : (kind == 6) = false := beq_eq_false_iff_ne.2 k6
  have j7 : (kind == 7) = false := beq_eq_false_iff_ne.2 k7
  have j4 : (kind == 4) = false := beq_eq_false_iff_ne.2 k4
  clear k2 k3 k5 k11 k6 k7 k4
  have HPA : Hid (w.heap.size ≤ w.heap.size + 1) := by unfold Hid; omega
  go_enter_defers Try.func61, Try.ntmps61
  go_upto_region 18 with fail
  generalize (w.alloc (.cells #[.int .i64 kind, .int .i64 a, .int .i64 b', .int .i64 c, .string os, .string ot] 49)).alloc (.cells #[.int .i64 0, .int .i64 0, .int .i64 0, .string ⟨#[]⟩] 51) = W at *
  generalize w.heap.size + 1 = pa at *
  have c0 := B0.out.a0.c
  have c1 := B0.out.a1.c
  have c2 := B0.out.a2.c
  have c3 := B0.out.a3.c
  have f0 := B0.out.a0.f
  have f1 := B0.out.a1.f
  have f2 := B0.out.a2.f
  have f3 := B0.out.a3.f
  go_wp2_with fail
  refine mec_leave Try.results61 rfl B0.out.a0.has B0.out.a1.has B0.out.a2.has B0.out.a3.has ⟨rfl, HR.out.fr (S := fun i => i = pa) (in_fr _ _ _ (in_fr _ _ _ (in_fr _ _ _ (in_fr _ _ _ (Fr.refl _ W))))) (fun i hi e => by have := HL.out i hi; have := HPA.out; omega), HF.out.then (S' := fun i => i = pa) (in_fr _ _ _ (in_fr _ _ _ (in_fr _ _ _ (in_fr _ _ _ (Fr.refl _ W))))) (fun i hi e => by have := HPA.out; omega)⟩

end Go.Proofs.Qxb6500453a
