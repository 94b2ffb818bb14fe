/- What the law owes: Owed. -/
import Derived.Test.Qxb6500453aZBat
namespace Go.Proofs.Qxb6500453a
open Go Go.RowKit
set_option maxRecDepth 100000
set_option maxHeartbeats 1600000
set_option linter.unusedSimpArgs false
set_option linter.unusedVariables false

/-- Does the step clear the trace? -/
def owC (o : Stp) : Bool := decide (o.kind = 2 ∨ o.kind = 3 ∨ o.kind = 4 ∨ o.kind = 11 ∨ (o.kind = 5 ∧ (movs o.s o.a o.b o.c).length ≤ 3))
def owT (s : Led) (o : Stp) : List UInt8 := if owC o = true then (doS s o).lk.tr else []
theorem owC_false {s : Led} {o : Stp} (h : owC o = false) : doS s o = s := by
  unfold owC at h
  have h' := of_decide_eq_false h
  unfold doS
  rw [if_neg (fun c => h' (.inl c)), if_neg (fun c => h' (.inr (.inl c))), if_neg (fun c => h' (.inr (.inr (.inl c))))]
  by_cases k5 : o.kind = 5
  · rw [if_pos k5]
    unfold batS
    have : 3 < (movs o.s o.a o.b o.c).length := by
      have : ¬ (movs o.s o.a o.b o.c).length ≤ 3 := fun c => h' (.inr (.inr (.inr (.inr ⟨k5, c⟩))))
      omega
    rw [if_pos this]
  · rw [if_neg k5, if_neg (fun c => h' (.inr (.inr (.inr (.inl c)))))]

/-- What Owed answers, and what it leaves. -/
def OwnP (w : World) (P : Nat) (s : Led) (v : Value) (o : Stp) : Ending → World → Prop := fun e w' =>
  e = .returned (.tuple #[ansV (doE s o) (doN s o) 0 ⟨#[]⟩, .string (L.bs (owT s o)), .bool (owC o)]) ∧ GH w' P (doS s o).bal (doS s o).un s.lk.op v ∧ Kept s.lk (doS s o).lk ∧ Fr (fun i => i = P) w w'

theorem own_bal {w : World} {P : Nat} {s : Led} {v : Value} (g : GH w P s.bal s.un s.lk.op v) (ok : s.lk.Ok) (bl : ∀ k, k < 4 → 0 ≤ s.bal k ∧ s.bal k ≤ 250) (tot : sum4 s.bal = 400) (o : Stp) (hk : o.kind = 2) :
    Calls Try.prog 27 #[.pointer (some ⟨P, 0, none⟩), o.val] w (OwnP w P s v o) := by
  obtain ⟨kind, a, b', c, os, ot⟩ := o
  simp only at hk
  subst hk
  have OKP := hid (oneS_kept ok a)
  have HV : Hid (doE s ⟨2, a, b', c, os, ot⟩ = acqE s a ∧ doN s ⟨2, a, b', c, os, ot⟩ = balN s a ∧ doS s ⟨2, a, b', c, os, ot⟩ = oneS s a ∧ owT s ⟨2, a, b', c, os, ot⟩ = (oneS s a).lk.tr ∧ owC ⟨2, a, b', c, os, ot⟩ = true) := by
    refine ⟨by simp [doE], by simp [doN], by simp [doS], by simp [owT, owC, doS], by simp [owC]⟩
  unfold OwnP
  rw [HV.out.1, HV.out.2.1, HV.out.2.2.1, HV.out.2.2.2.1, HV.out.2.2.2.2]
  clear HV
  simp only [Stp.val, ansV]
  have HG := hid g
  have OK := hid ok
  have BL := hid bl
  have HT := hid tot
  have hP : P < w.heap.size := g.lt
  clear g ok bl tot
  have eb := OKP.out.2.1
  have eu := OKP.out.2.2
  rw [eb, eu]
  clear eb eu
  by_cases hE : acqE s a = 0
  · obtain ⟨k0, k4⟩ := acq_zero hE
    have hN : balN s a = s.bal a.toNat := by unfold balN; rw [if_pos hE]
    obtain ⟨n, rfl⟩ : ∃ n : Nat, a = (n : Int) := ⟨a.toNat, by omega⟩
    have hn4 : n < 4 := by omega
    simp only [Int.toNat_natCast] at hN
    rw [hN, hE]
    have HE := hid hE
    clear hN hE
    go_enter Try.func27, Try.ntmps27
    go_upto_region 1 with fail
    have BX := hid (do_box (w := w) (F := fun _ => False) (fun i h => h.elim) (Fr.refl (fun _ => False) ((w.alloc (.cells #[.int .i64 2, .int .i64 (n : Int), .int .i64 b', .int .i64 c, .string os, .string ot] 49)).alloc (.cells #[.int .i64 0, .int .i64 0, .int .i64 0, .string ⟨#[]⟩] 51))))
    have OA : Hid (∀ q u, (#[.int .i64 2, .int .i64 (n : Int), .int .i64 b', .int .i64 c, .string os, .string ot] : Array Value)[q]? = some u → At ((w.alloc (.cells #[.int .i64 2, .int .i64 (n : Int), .int .i64 b', .int .i64 c, .string os, .string ot] 49)).alloc (.cells #[.int .i64 0, .int .i64 0, .int .i64 0, .string ⟨#[]⟩] 51)) w.heap.size q u) := fun q u hu => (At.new w _ _ hu).alloc _
    have F0 := hid (two_fr w (.cells #[.int .i64 2, .int .i64 (n : Int), .int .i64 b', .int .i64 c, .string os, .string ot] 49) (.cells #[.int .i64 0, .int .i64 0, .int .i64 0, .string ⟨#[]⟩] 51))
    generalize (w.alloc (.cells #[.int .i64 2, .int .i64 (n : Int), .int .i64 b', .int .i64 c, .string os, .string ot] 49)).alloc (.cells #[.int .i64 0, .int .i64 0, .int .i64 0, .string ⟨#[]⟩] 51) = w0 at *
    obtain ⟨pa, hpa⟩ : ∃ pa, pa = w.heap.size + 1 := ⟨_, rfl⟩
    rw [← hpa] at BX ⊢
    obtain ⟨pO, hpO⟩ : ∃ pO, pO = w.heap.size := ⟨_, rfl⟩
    rw [← hpO] at OA ⊢
    have HPA : Hid (pa = w.heap.size + 1 ∧ pO = w.heap.size) := ⟨hpa, hpO⟩
    have haP : P ≠ pa := by omega
    have hOP : P ≠ pO := by omega
    have haO : pa ≠ pO := by omega
    clear hpa hpO
    have G0 := hid (HG.out.fr F0.out (fun h => h))
    have d0 := (OA.out 0 _ rfl).c
    have d1 := (OA.out 1 _ rfl).c
    have d2 := (OA.out 2 _ rfl).c
    have d3 := (OA.out 3 _ rfl).c
    have d4 := (OA.out 4 _ rfl).c
    have d5 := (OA.out 5 _ rfl).c
    go_wp2_with fail
    refine (one_owed G0.out OK.out (n : Int)).mono ?_
    rintro e w1 ⟨rfl, f1⟩
    have B1 := hid (BX.out.fr f1 (fun h => h))
    have O1 := hid (fun q u hu => (OA.out q u hu).fr f1 (fun h => h))
    have G1 := hid (G0.out.fr f1 (fun h => h))
    have F1 := hid (F0.out.trans f1)
    clear f1 BX OA G0 F0 d0 d1 d2 d3 d4 d5
    have d1 := (O1.out 1 _ rfl).c
    have d2 := (O1.out 2 _ rfl).c
    have c0 := B1.out.a0.c
    have x0 := B1.out.a0.f
    have c1 := B1.out.a1.c
    have x1 := B1.out.a1.f
    have c2 := B1.out.a2.c
    have x2 := B1.out.a2.f
    have c3 := B1.out.a3.c
    have x3 := B1.out.a3.f
    rw [HE.out]
    have g0 := (G1.out.gb n hn4).c
    go_upto_region 6 with fail
    go_region
    go_wp2_with fail
    refine retOB Try.results27 rfl rfl rfl rfl ((((B1.out.a0.same _).other (by omega) _).other (by omega) _).other (by omega) _).drew ((((B1.out.a1.other (by omega) _).same _).other (by omega) _).other (by omega) _).drew ((((B1.out.a2.other (by omega) _).other (by omega) _).same _).other (by omega) _).drew ((((B1.out.a3.other (by omega) _).other (by omega) _).other (by omega) _).same _).drew ?_
    exact ⟨rfl, (G1.out.fr (S := fun i => i = pa) (in_fr pa _ _ (in_fr _ _ _ (in_fr _ _ _ (in_fr _ _ _ (Fr.refl _ _))))) haP).fr ((Fr.refl (fun _ => False) _).drew) (fun h => h), OKP.out.1, ((F1.out.mono (fun _ _ h => h.elim)).then (S' := fun i => i = pa) (in_fr pa _ _ (in_fr _ _ _ (in_fr _ _ _ (in_fr _ _ _ (Fr.refl _ _))))) (fun i hi e => by have := HPA.out; omega)).drew⟩
  · have hN : balN s a = 0 := by unfold balN; rw [if_neg hE]
    have hEb : (acqE s a != 0) = true := by simp [hE]
    rw [hN]
    clear hN hE
    go_enter Try.func27, Try.ntmps27
    go_upto_region 1 with fail
    have BX := hid (do_box (w := w) (F := fun _ => False) (fun i h => h.elim) (Fr.refl (fun _ => False) ((w.alloc (.cells #[.int .i64 2, .int .i64 a, .int .i64 b', .int .i64 c, .string os, .string ot] 49)).alloc (.cells #[.int .i64 0, .int .i64 0, .int .i64 0, .string ⟨#[]⟩] 51))))
    have OA : Hid (∀ q u, (#[.int .i64 2, .int .i64 a, .int .i64 b', .int .i64 c, .string os, .string ot] : Array Value)[q]? = some u → At ((w.alloc (.cells #[.int .i64 2, .int .i64 a, .int .i64 b', .int .i64 c, .string os, .string ot] 49)).alloc (.cells #[.int .i64 0, .int .i64 0, .int .i64 0, .string ⟨#[]⟩] 51)) w.heap.size q u) := fun q u hu => (At.new w _ _ hu).alloc _
    have F0 := hid (two_fr w (.cells #[.int .i64 2, .int .i64 a, .int .i64 b', .int .i64 c, .string os, .string ot] 49) (.cells #[.int .i64 0, .int .i64 0, .int .i64 0, .string ⟨#[]⟩] 51))
    generalize (w.alloc (.cells #[.int .i64 2, .int .i64 a, .int .i64 b', .int .i64 c, .string os, .string ot] 49)).alloc (.cells #[.int .i64 0, .int .i64 0, .int .i64 0, .string ⟨#[]⟩] 51) = w0 at *
    obtain ⟨pa, hpa⟩ : ∃ pa, pa = w.heap.size + 1 := ⟨_, rfl⟩
    rw [← hpa] at BX ⊢
    obtain ⟨pO, hpO⟩ : ∃ pO, pO = w.heap.size := ⟨_, rfl⟩
    rw [← hpO] at OA ⊢
    have HPA : Hid (pa = w.heap.size + 1 ∧ pO = w.heap.size) := ⟨hpa, hpO⟩
    have haP : P ≠ pa := by omega
    have hOP : P ≠ pO := by omega
    have haO : pa ≠ pO := by omega
    clear hpa hpO
    have G0 := hid (HG.out.fr F0.out (fun h => h))
    have d0 := (OA.out 0 _ rfl).c
    have d1 := (OA.out 1 _ rfl).c
    have d2 := (OA.out 2 _ rfl).c
    have d3 := (OA.out 3 _ rfl).c
    have d4 := (OA.out 4 _ rfl).c
    have d5 := (OA.out 5 _ rfl).c
    go_wp2_with fail
    refine (one_owed G0.out OK.out a).mono ?_
    rintro e w1 ⟨rfl, f1⟩
    have B1 := hid (BX.out.fr f1 (fun h => h))
    have O1 := hid (fun q u hu => (OA.out q u hu).fr f1 (fun h => h))
    have G1 := hid (G0.out.fr f1 (fun h => h))
    have F1 := hid (F0.out.trans f1)
    clear f1 BX OA G0 F0 d0 d1 d2 d3 d4 d5
    have d1 := (O1.out 1 _ rfl).c
    have d2 := (O1.out 2 _ rfl).c
    have c0 := B1.out.a0.c
    have x0 := B1.out.a0.f
    have c1 := B1.out.a1.c
    have x1 := B1.out.a1.f
    have c2 := B1.out.a2.c
    have x2 := B1.out.a2.f
    have c3 := B1.out.a3.c
    have x3 := B1.out.a3.f
    go_wp2_with fail
    refine retO3 Try.results27 rfl rfl rfl rfl B1.out.a0.has B1.out.a1.has B1.out.a2.has B1.out.a3.has ?_
    exact ⟨rfl, G1.out.fr (S := fun i => i = pa) (in_fr pa _ _ (in_fr _ _ _ (in_fr _ _ _ (in_fr _ _ _ (Fr.refl _ _))))) haP, OKP.out.1, (F1.out.mono (fun _ _ h => h.elim)).then (S' := fun i => i = pa) (in_fr pa _ _ (in_fr _ _ _ (in_fr _ _ _ (in_fr _ _ _ (Fr.refl _ _))))) (fun i hi e => by have := HPA.out; omega)⟩

theorem own_spn {w : World} {P : Nat} {s : Led} {v : Value} (g : GH w P s.bal s.un s.lk.op v) (ok : s.lk.Ok) (bl : ∀ k, k < 4 → 0 ≤ s.bal k ∧ s.bal k ≤ 250) (tot : sum4 s.bal = 400) (o : Stp) (hk : o.kind = 4) (hb : o.b < 0) :
    Calls Try.prog 27 #[.pointer (some ⟨P, 0, none⟩), o.val] w (OwnP w P s v o) := by
  obtain ⟨kind, a, b', c, os, ot⟩ := o
  simp only at hk
  subst hk
  have hb' : b' < 0 := hb
  clear hb
  have HV : Hid (doE s ⟨4, a, b', c, os, ot⟩ = 2 ∧ doN s ⟨4, a, b', c, os, ot⟩ = 0 ∧ doS s ⟨4, a, b', c, os, ot⟩ = clr s ∧ owT s ⟨4, a, b', c, os, ot⟩ = [] ∧ owC ⟨4, a, b', c, os, ot⟩ = true) := by
    have hz : ¬ divZ s ⟨4, a, b', c, os, ot⟩ := fun h => by have := h.1; simp only at this; omega
    refine ⟨by simp [doE, hz, splE, hb'], by simp [doN, hz, splN, hb'], by simp [doS, hz, splS, hb'], by simp [owT, owC, doS, hz, splS, hb', clr, L.clear], by simp [owC]⟩
  unfold OwnP
  rw [HV.out.1, HV.out.2.1, HV.out.2.2.1, HV.out.2.2.2.1, HV.out.2.2.2.2]
  clear HV
  simp only [Stp.val, ansV]
  have HG := hid g
  have OK := hid ok
  have BL := hid bl
  have HT := hid tot
  have hP : P < w.heap.size := g.lt
  clear g ok bl tot
  go_enter Try.func27, Try.ntmps27
  go_upto_region 1 with fail
  have BX := hid (do_box (w := w) (F := fun _ => False) (fun i h => h.elim) (Fr.refl (fun _ => False) ((w.alloc (.cells #[.int .i64 4, .int .i64 a, .int .i64 b', .int .i64 c, .string os, .string ot] 49)).alloc (.cells #[.int .i64 0, .int .i64 0, .int .i64 0, .string ⟨#[]⟩] 51))))
  have OA : Hid (∀ q u, (#[.int .i64 4, .int .i64 a, .int .i64 b', .int .i64 c, .string os, .string ot] : Array Value)[q]? = some u → At ((w.alloc (.cells #[.int .i64 4, .int .i64 a, .int .i64 b', .int .i64 c, .string os, .string ot] 49)).alloc (.cells #[.int .i64 0, .int .i64 0, .int .i64 0, .string ⟨#[]⟩] 51)) w.heap.size q u) := fun q u hu => (At.new w _ _ hu).alloc _
  have F0 := hid (two_fr w (.cells #[.int .i64 4, .int .i64 a, .int .i64 b', .int .i64 c, .string os, .string ot] 49) (.cells #[.int .i64 0, .int .i64 0, .int .i64 0, .string ⟨#[]⟩] 51))
  generalize (w.alloc (.cells #[.int .i64 4, .int .i64 a, .int .i64 b', .int .i64 c, .string os, .string ot] 49)).alloc (.cells #[.int .i64 0, .int .i64 0, .int .i64 0, .string ⟨#[]⟩] 51) = w0 at *
  obtain ⟨pa, hpa⟩ : ∃ pa, pa = w.heap.size + 1 := ⟨_, rfl⟩
  rw [← hpa] at BX ⊢
  obtain ⟨pO, hpO⟩ : ∃ pO, pO = w.heap.size := ⟨_, rfl⟩
  rw [← hpO] at OA ⊢
  have HPA : Hid (pa = w.heap.size + 1 ∧ pO = w.heap.size) := ⟨hpa, hpO⟩
  have haP : P ≠ pa := by omega
  have hOP : P ≠ pO := by omega
  have haO : pa ≠ pO := by omega
  clear hpa hpO
  have G0 := hid (HG.out.fr F0.out (fun h => h))
  have d0 := (OA.out 0 _ rfl).c
  have d1 := (OA.out 1 _ rfl).c
  have d2 := (OA.out 2 _ rfl).c
  have d3 := (OA.out 3 _ rfl).c
  have d4 := (OA.out 4 _ rfl).c
  have d5 := (OA.out 5 _ rfl).c
  have c0 := BX.out.a0.c
  have x0 := BX.out.a0.f
  have c1 := BX.out.a1.c
  have x1 := BX.out.a1.f
  have c2 := BX.out.a2.c
  have x2 := BX.out.a2.f
  have c3 := BX.out.a3.c
  have x3 := BX.out.a3.f
  go_wp2_with fail
  refine retO3 Try.results27 rfl rfl rfl rfl BX.out.a0.has BX.out.a1.has BX.out.a2.has BX.out.a3.has ?_
  exact ⟨rfl, G0.out.fr (S := fun i => i = pa) (in_fr pa _ _ (in_fr _ _ _ (in_fr _ _ _ (in_fr _ _ _ (Fr.refl _ _))))) haP, kept_clr s, (F0.out.mono (fun _ _ h => h.elim)).then (S' := fun i => i = pa) (in_fr pa _ _ (in_fr _ _ _ (in_fr _ _ _ (in_fr _ _ _ (Fr.refl _ _))))) (fun i hi e => by have := HPA.out; omega)⟩

theorem own_spe {w : World} {P : Nat} {s : Led} {v : Value} (g : GH w P s.bal s.un s.lk.op v) (ok : s.lk.Ok) (bl : ∀ k, k < 4 → 0 ≤ s.bal k ∧ s.bal k ≤ 250) (tot : sum4 s.bal = 400) (o : Stp) (hk : o.kind = 4) (hb : ¬ o.b < 0) (hE : acqE s o.a ≠ 0) :
    Calls Try.prog 27 #[.pointer (some ⟨P, 0, none⟩), o.val] w (OwnP w P s v o) := by
  obtain ⟨kind, a, b', c, os, ot⟩ := o
  simp only at hk
  subst hk
  have hb' : ¬ b' < 0 := hb
  have hE' : acqE s a ≠ 0 := hE
  clear hb hE
  have OKP := hid (oneS_kept ok a)
  have HV : Hid (doE s ⟨4, a, b', c, os, ot⟩ = acqE s a ∧ doN s ⟨4, a, b', c, os, ot⟩ = 0 ∧ doS s ⟨4, a, b', c, os, ot⟩ = oneS s a ∧ owT s ⟨4, a, b', c, os, ot⟩ = (oneS s a).lk.tr ∧ owC ⟨4, a, b', c, os, ot⟩ = true) := by
    have hz : ¬ divZ s ⟨4, a, b', c, os, ot⟩ := fun h => hE' h.2
    refine ⟨by simp [doE, hz, splE, hb'], by simp [doN, hz, splN, hb', hE'], by simp [doS, hz, splS, hb'], by simp [owT, owC, doS, hz, splS, hb'], by simp [owC]⟩
  unfold OwnP
  rw [HV.out.1, HV.out.2.1, HV.out.2.2.1, HV.out.2.2.2.1, HV.out.2.2.2.2]
  clear HV
  simp only [Stp.val, ansV]
  have HG := hid g
  have OK := hid ok
  have BL := hid bl
  have HT := hid tot
  have hP : P < w.heap.size := g.lt
  clear g ok bl tot
  have eb := OKP.out.2.1
  have eu := OKP.out.2.2
  rw [eb, eu]
  clear eb eu
  have hEb : (acqE s a != 0) = true := by simp [hE']
  clear hE'
  go_enter Try.func27, Try.ntmps27
  go_upto_region 1 with fail
  have BX := hid (do_box (w := w) (F := fun _ => False) (fun i h => h.elim) (Fr.refl (fun _ => False) ((w.alloc (.cells #[.int .i64 4, .int .i64 a, .int .i64 b', .int .i64 c, .string os, .string ot] 49)).alloc (.cells #[.int .i64 0, .int .i64 0, .int .i64 0, .string ⟨#[]⟩] 51))))
  have OA : Hid (∀ q u, (#[.int .i64 4, .int .i64 a, .int .i64 b', .int .i64 c, .string os, .string ot] : Array Value)[q]? = some u → At ((w.alloc (.cells #[.int .i64 4, .int .i64 a, .int .i64 b', .int .i64 c, .string os, .string ot] 49)).alloc (.cells #[.int .i64 0, .int .i64 0, .int .i64 0, .string ⟨#[]⟩] 51)) w.heap.size q u) := fun q u hu => (At.new w _ _ hu).alloc _
  have F0 := hid (two_fr w (.cells #[.int .i64 4, .int .i64 a, .int .i64 b', .int .i64 c, .string os, .string ot] 49) (.cells #[.int .i64 0, .int .i64 0, .int .i64 0, .string ⟨#[]⟩] 51))
  generalize (w.alloc (.cells #[.int .i64 4, .int .i64 a, .int .i64 b', .int .i64 c, .string os, .string ot] 49)).alloc (.cells #[.int .i64 0, .int .i64 0, .int .i64 0, .string ⟨#[]⟩] 51) = w0 at *
  obtain ⟨pa, hpa⟩ : ∃ pa, pa = w.heap.size + 1 := ⟨_, rfl⟩
  rw [← hpa] at BX ⊢
  obtain ⟨pO, hpO⟩ : ∃ pO, pO = w.heap.size := ⟨_, rfl⟩
  rw [← hpO] at OA ⊢
  have HPA : Hid (pa = w.heap.size + 1 ∧ pO = w.heap.size) := ⟨hpa, hpO⟩
  have haP : P ≠ pa := by omega
  have hOP : P ≠ pO := by omega
  have haO : pa ≠ pO := by omega
  clear hpa hpO
  have G0 := hid (HG.out.fr F0.out (fun h => h))
  have d0 := (OA.out 0 _ rfl).c
  have d1 := (OA.out 1 _ rfl).c
  have d2 := (OA.out 2 _ rfl).c
  have d3 := (OA.out 3 _ rfl).c
  have d4 := (OA.out 4 _ rfl).c
  have d5 := (OA.out 5 _ rfl).c
  go_wp2_with fail
  refine (one_owed G0.out OK.out a).mono ?_
  rintro e w1 ⟨rfl, f1⟩
  have B1 := hid (BX.out.fr f1 (fun h => h))
  have O1 := hid (fun q u hu => (OA.out q u hu).fr f1 (fun h => h))
  have G1 := hid (G0.out.fr f1 (fun h => h))
  have F1 := hid (F0.out.trans f1)
  clear f1 BX OA G0 F0 d0 d1 d2 d3 d4 d5
  have d1 := (O1.out 1 _ rfl).c
  have d2 := (O1.out 2 _ rfl).c
  have c0 := B1.out.a0.c
  have x0 := B1.out.a0.f
  have c1 := B1.out.a1.c
  have x1 := B1.out.a1.f
  have c2 := B1.out.a2.c
  have x2 := B1.out.a2.f
  have c3 := B1.out.a3.c
  have x3 := B1.out.a3.f
  go_wp2_with fail
  refine retO3 Try.results27 rfl rfl rfl rfl B1.out.a0.has B1.out.a1.has B1.out.a2.has B1.out.a3.has ?_
  exact ⟨rfl, G1.out.fr (S := fun i => i = pa) (in_fr pa _ _ (in_fr _ _ _ (in_fr _ _ _ (in_fr _ _ _ (Fr.refl _ _))))) haP, OKP.out.1, (F1.out.mono (fun _ _ h => h.elim)).then (S' := fun i => i = pa) (in_fr pa _ _ (in_fr _ _ _ (in_fr _ _ _ (in_fr _ _ _ (Fr.refl _ _))))) (fun i hi e => by have := HPA.out; omega)⟩

theorem own_spz {w : World} {P : Nat} {s : Led} {v : Value} (g : GH w P s.bal s.un s.lk.op v) (ok : s.lk.Ok) (bl : ∀ k, k < 4 → 0 ≤ s.bal k ∧ s.bal k ≤ 250) (tot : sum4 s.bal = 400) (o : Stp) (hk : o.kind = 4) (hb : o.b = 0) (hE : acqE s o.a = 0) :
    Calls Try.prog 27 #[.pointer (some ⟨P, 0, none⟩), o.val] w (OwnP w P s v o) := by
  obtain ⟨kind, a, b', c, os, ot⟩ := o
  simp only at hk
  subst hk
  simp only at hb hE
  subst hb
  have OKP := hid (oneS_kept ok a)
  have HV : Hid (doE s ⟨4, a, 0, c, os, ot⟩ = 10 ∧ doN s ⟨4, a, 0, c, os, ot⟩ = 0 ∧ doS s ⟨4, a, 0, c, os, ot⟩ = oneS s a ∧ owT s ⟨4, a, 0, c, os, ot⟩ = (oneS s a).lk.tr ∧ owC ⟨4, a, 0, c, os, ot⟩ = true) := by
    have hz : divZ s ⟨4, a, 0, c, os, ot⟩ := ⟨rfl, hE⟩
    refine ⟨by simp [doE, hz], by simp [doN, hz], by simp [doS, hz], by simp [owT, owC, doS, hz], by simp [owC]⟩
  unfold OwnP
  rw [HV.out.1, HV.out.2.1, HV.out.2.2.1, HV.out.2.2.2.1, HV.out.2.2.2.2]
  clear HV
  simp only [Stp.val, ansV]
  have HG := hid g
  have OK := hid ok
  have BL := hid bl
  have HT := hid tot
  have hP : P < w.heap.size := g.lt
  clear g ok bl tot
  have eb := OKP.out.2.1
  have eu := OKP.out.2.2
  rw [eb, eu]
  clear eb eu
  have HE := hid hE
  clear hE
  go_enter Try.func27, Try.ntmps27
  go_upto_region 1 with fail
  have BX := hid (do_box (w := w) (F := fun _ => False) (fun i h => h.elim) (Fr.refl (fun _ => False) ((w.alloc (.cells #[.int .i64 4, .int .i64 a, .int .i64 0, .int .i64 c, .string os, .string ot] 49)).alloc (.cells #[.int .i64 0, .int .i64 0, .int .i64 0, .string ⟨#[]⟩] 51))))
  have OA : Hid (∀ q u, (#[.int .i64 4, .int .i64 a, .int .i64 0, .int .i64 c, .string os, .string ot] : Array Value)[q]? = some u → At ((w.alloc (.cells #[.int .i64 4, .int .i64 a, .int .i64 0, .int .i64 c, .string os, .string ot] 49)).alloc (.cells #[.int .i64 0, .int .i64 0, .int .i64 0, .string ⟨#[]⟩] 51)) w.heap.size q u) := fun q u hu => (At.new w _ _ hu).alloc _
  have F0 := hid (two_fr w (.cells #[.int .i64 4, .int .i64 a, .int .i64 0, .int .i64 c, .string os, .string ot] 49) (.cells #[.int .i64 0, .int .i64 0, .int .i64 0, .string ⟨#[]⟩] 51))
  generalize (w.alloc (.cells #[.int .i64 4, .int .i64 a, .int .i64 0, .int .i64 c, .string os, .string ot] 49)).alloc (.cells #[.int .i64 0, .int .i64 0, .int .i64 0, .string ⟨#[]⟩] 51) = w0 at *
  obtain ⟨pa, hpa⟩ : ∃ pa, pa = w.heap.size + 1 := ⟨_, rfl⟩
  rw [← hpa] at BX ⊢
  obtain ⟨pO, hpO⟩ : ∃ pO, pO = w.heap.size := ⟨_, rfl⟩
  rw [← hpO] at OA ⊢
  have HPA : Hid (pa = w.heap.size + 1 ∧ pO = w.heap.size) := ⟨hpa, hpO⟩
  have haP : P ≠ pa := by omega
  have hOP : P ≠ pO := by omega
  have haO : pa ≠ pO := by omega
  clear hpa hpO
  have G0 := hid (HG.out.fr F0.out (fun h => h))
  have d0 := (OA.out 0 _ rfl).c
  have d1 := (OA.out 1 _ rfl).c
  have d2 := (OA.out 2 _ rfl).c
  have d3 := (OA.out 3 _ rfl).c
  have d4 := (OA.out 4 _ rfl).c
  have d5 := (OA.out 5 _ rfl).c
  go_wp2_with fail
  refine (one_owed G0.out OK.out a).mono ?_
  rintro e w1 ⟨rfl, f1⟩
  have B1 := hid (BX.out.fr f1 (fun h => h))
  have O1 := hid (fun q u hu => (OA.out q u hu).fr f1 (fun h => h))
  have G1 := hid (G0.out.fr f1 (fun h => h))
  have F1 := hid (F0.out.trans f1)
  clear f1 BX OA G0 F0 d0 d1 d2 d3 d4 d5
  have d1 := (O1.out 1 _ rfl).c
  have d2 := (O1.out 2 _ rfl).c
  have c0 := B1.out.a0.c
  have x0 := B1.out.a0.f
  have c1 := B1.out.a1.c
  have x1 := B1.out.a1.f
  have c2 := B1.out.a2.c
  have x2 := B1.out.a2.f
  have c3 := B1.out.a3.c
  have x3 := B1.out.a3.f
  rw [HE.out]
  go_wp2_with fail
  refine retO3 Try.results27 rfl rfl rfl rfl B1.out.a0.has B1.out.a1.has B1.out.a2.has B1.out.a3.has ?_
  exact ⟨rfl, G1.out.fr (S := fun i => i = pa) (in_fr pa _ _ (in_fr _ _ _ (in_fr _ _ _ (in_fr _ _ _ (Fr.refl _ _))))) haP, OKP.out.1, (F1.out.mono (fun _ _ h => h.elim)).then (S' := fun i => i = pa) (in_fr pa _ _ (in_fr _ _ _ (in_fr _ _ _ (in_fr _ _ _ (Fr.refl _ _))))) (fun i hi e => by have := HPA.out; omega)⟩

theorem own_spl {w : World} {P : Nat} {s : Led} {v : Value} (g : GH w P s.bal s.un s.lk.op v) (ok : s.lk.Ok) (bl : ∀ k, k < 4 → 0 ≤ s.bal k ∧ s.bal k ≤ 250) (tot : sum4 s.bal = 400) (o : Stp) (hk : o.kind = 4) (hb : 0 < o.b) (hE : acqE s o.a = 0) :
    Calls Try.prog 27 #[.pointer (some ⟨P, 0, none⟩), o.val] w (OwnP w P s v o) := by
  obtain ⟨kind, a, b', c, os, ot⟩ := o
  simp only at hk
  subst hk
  simp only at hb hE
  have OKP := hid (oneS_kept ok a)
  have HV : Hid (doE s ⟨4, a, b', c, os, ot⟩ = 0 ∧ doN s ⟨4, a, b', c, os, ot⟩ = (s.bal a.toNat).tdiv b' ∧ doS s ⟨4, a, b', c, os, ot⟩ = oneS s a ∧ owT s ⟨4, a, b', c, os, ot⟩ = (oneS s a).lk.tr ∧ owC ⟨4, a, b', c, os, ot⟩ = true) := by
    have hz : ¬ divZ s ⟨4, a, b', c, os, ot⟩ := fun h => by have := h.1; simp only at this; omega
    have hn : ¬ b' < 0 := by omega
    refine ⟨by simp [doE, hz, splE, hn, hE], by simp [doN, hz, splN, hn, hE], by simp [doS, hz, splS, hn], by simp [owT, owC, doS, hz, splS, hn], by simp [owC]⟩
  unfold OwnP
  rw [HV.out.1, HV.out.2.1, HV.out.2.2.1, HV.out.2.2.2.1, HV.out.2.2.2.2]
  clear HV
  simp only [Stp.val, ansV]
  have HG := hid g
  have OK := hid ok
  have BL := hid bl
  have HT := hid tot
  have hP : P < w.heap.size := g.lt
  clear g ok bl tot
  have eb := OKP.out.2.1
  have eu := OKP.out.2.2
  rw [eb, eu]
  clear eb eu
  obtain ⟨k0, k4⟩ := acq_zero hE
  obtain ⟨n, rfl⟩ : ∃ n : Nat, a = (n : Int) := ⟨a.toNat, by omega⟩
  have hn4 : n < 4 := by omega
  simp only [Int.toNat_natCast]
  obtain ⟨v0, v1⟩ := BL.out n hn4
  have hq0 : 0 ≤ (s.bal n).tdiv b' := Int.tdiv_nonneg v0 (by omega)
  have hq1 : (s.bal n).tdiv b' ≤ 250 := Int.le_trans (Int.tdiv_le_self _ v0) v1
  have hw : IntKind.i64.wrap ((s.bal n).tdiv b') = (s.bal n).tdiv b' := Go.IntWalk.i64_in _ (by omega)
  have hbn : ¬ b' < 0 := by omega
  have hb0 : (b' == 0) = false := by simp; omega
  have hb0' : ¬ b' = 0 := by omega
  have HE := hid hE
  clear hE
  go_enter Try.func27, Try.ntmps27
  go_upto_region 1 with fail
  have BX := hid (do_box (w := w) (F := fun _ => False) (fun i h => h.elim) (Fr.refl (fun _ => False) ((w.alloc (.cells #[.int .i64 4, .int .i64 (n : Int), .int .i64 b', .int .i64 c, .string os, .string ot] 49)).alloc (.cells #[.int .i64 0, .int .i64 0, .int .i64 0, .string ⟨#[]⟩] 51))))
  have OA : Hid (∀ q u, (#[.int .i64 4, .int .i64 (n : Int), .int .i64 b', .int .i64 c, .string os, .string ot] : Array Value)[q]? = some u → At ((w.alloc (.cells #[.int .i64 4, .int .i64 (n : Int), .int .i64 b', .int .i64 c, .string os, .string ot] 49)).alloc (.cells #[.int .i64 0, .int .i64 0, .int .i64 0, .string ⟨#[]⟩] 51)) w.heap.size q u) := fun q u hu => (At.new w _ _ hu).alloc _
  have F0 := hid (two_fr w (.cells #[.int .i64 4, .int .i64 (n : Int), .int .i64 b', .int .i64 c, .string os, .string ot] 49) (.cells #[.int .i64 0, .int .i64 0, .int .i64 0, .string ⟨#[]⟩] 51))
  generalize (w.alloc (.cells #[.int .i64 4, .int .i64 (n : Int), .int .i64 b', .int .i64 c, .string os, .string ot] 49)).alloc (.cells #[.int .i64 0, .int .i64 0, .int .i64 0, .string ⟨#[]⟩] 51) = w0 at *
  obtain ⟨pa, hpa⟩ : ∃ pa, pa = w.heap.size + 1 := ⟨_, rfl⟩
  rw [← hpa] at BX ⊢
  obtain ⟨pO, hpO⟩ : ∃ pO, pO = w.heap.size := ⟨_, rfl⟩
  rw [← hpO] at OA ⊢
  have HPA : Hid (pa = w.heap.size + 1 ∧ pO = w.heap.size) := ⟨hpa, hpO⟩
  have haP : P ≠ pa := by omega
  have hOP : P ≠ pO := by omega
  have haO : pa ≠ pO := by omega
  clear hpa hpO
  have G0 := hid (HG.out.fr F0.out (fun h => h))
  have d0 := (OA.out 0 _ rfl).c
  have d1 := (OA.out 1 _ rfl).c
  have d2 := (OA.out 2 _ rfl).c
  have d3 := (OA.out 3 _ rfl).c
  have d4 := (OA.out 4 _ rfl).c
  have d5 := (OA.out 5 _ rfl).c
  go_wp2_with fail
  refine (one_owed G0.out OK.out (n : Int)).mono ?_
  rintro e w1 ⟨rfl, f1⟩
  have B1 := hid (BX.out.fr f1 (fun h => h))
  have O1 := hid (fun q u hu => (OA.out q u hu).fr f1 (fun h => h))
  have G1 := hid (G0.out.fr f1 (fun h => h))
  have F1 := hid (F0.out.trans f1)
  clear f1 BX OA G0 F0 d0 d1 d2 d3 d4 d5
  have d1 := (O1.out 1 _ rfl).c
  have d2 := (O1.out 2 _ rfl).c
  have c0 := B1.out.a0.c
  have x0 := B1.out.a0.f
  have c1 := B1.out.a1.c
  have x1 := B1.out.a1.f
  have c2 := B1.out.a2.c
  have x2 := B1.out.a2.f
  have c3 := B1.out.a3.c
  have x3 := B1.out.a3.f
  rw [HE.out]
  have g0 := (G1.out.gb n hn4).c
  go_upto_region 15 with fail
  go_region
  go_wp2_with fail
  refine retOB Try.results27 rfl rfl rfl rfl ((((B1.out.a0.same _).other (by omega) _).other (by omega) _).other (by omega) _).drew ((((B1.out.a1.other (by omega) _).same _).other (by omega) _).other (by omega) _).drew ((((B1.out.a2.other (by omega) _).other (by omega) _).same _).other (by omega) _).drew ((((B1.out.a3.other (by omega) _).other (by omega) _).other (by omega) _).same _).drew ?_
  exact ⟨rfl, (G1.out.fr (S := fun i => i = pa) (in_fr pa _ _ (in_fr _ _ _ (in_fr _ _ _ (in_fr _ _ _ (Fr.refl _ _))))) haP).fr ((Fr.refl (fun _ => False) _).drew) (fun h => h), OKP.out.1, ((F1.out.mono (fun _ _ h => h.elim)).then (S' := fun i => i = pa) (in_fr pa _ _ (in_fr _ _ _ (in_fr _ _ _ (in_fr _ _ _ (Fr.refl _ _))))) (fun i hi e => by have := HPA.out; omega)).drew⟩

theorem own_tr {w : World} {P : Nat} {s : Led} {v : Value} (g : GH w P s.bal s.un s.lk.op v) (ok : s.lk.Ok) (bl : ∀ k, k < 4 → 0 ≤ s.bal k ∧ s.bal k ≤ 250) (tot : sum4 s.bal = 400) (o : Stp) (hk : o.kind = 3) :
    Calls Try.prog 27 #[.pointer (some ⟨P, 0, none⟩), o.val] w (OwnP w P s v o) := by
  obtain ⟨kind, a, b', c, os, ot⟩ := o
  simp only at hk
  subst hk
  have HV : Hid (doE s ⟨3, a, b', c, os, ot⟩ = trE s a b' c ∧ doN s ⟨3, a, b', c, os, ot⟩ = trN s a b' c ∧ doS s ⟨3, a, b', c, os, ot⟩ = trS s a b' c ∧ owT s ⟨3, a, b', c, os, ot⟩ = (trS s a b' c).lk.tr ∧ owC ⟨3, a, b', c, os, ot⟩ = true) := by
    refine ⟨by simp [doE], by simp [doN], by simp [doS], by simp [owT, owC, doS], by simp [owC]⟩
  unfold OwnP
  rw [HV.out.1, HV.out.2.1, HV.out.2.2.1, HV.out.2.2.2.1, HV.out.2.2.2.2]
  clear HV
  simp only [Stp.val, ansV]
  have HG := hid g
  have OK := hid ok
  have BL := hid bl
  have HT := hid tot
  have hP : P < w.heap.size := g.lt
  clear g ok bl tot
  go_enter Try.func27, Try.ntmps27
  go_upto_region 1 with fail
  have BX := hid (do_box (w := w) (F := fun _ => False) (fun i h => h.elim) (Fr.refl (fun _ => False) ((w.alloc (.cells #[.int .i64 3, .int .i64 a, .int .i64 b', .int .i64 c, .string os, .string ot] 49)).alloc (.cells #[.int .i64 0, .int .i64 0, .int .i64 0, .string ⟨#[]⟩] 51))))
  have OA : Hid (∀ q u, (#[.int .i64 3, .int .i64 a, .int .i64 b', .int .i64 c, .string os, .string ot] : Array Value)[q]? = some u → At ((w.alloc (.cells #[.int .i64 3, .int .i64 a, .int .i64 b', .int .i64 c, .string os, .string ot] 49)).alloc (.cells #[.int .i64 0, .int .i64 0, .int .i64 0, .string ⟨#[]⟩] 51)) w.heap.size q u) := fun q u hu => (At.new w _ _ hu).alloc _
  have F0 := hid (two_fr w (.cells #[.int .i64 3, .int .i64 a, .int .i64 b', .int .i64 c, .string os, .string ot] 49) (.cells #[.int .i64 0, .int .i64 0, .int .i64 0, .string ⟨#[]⟩] 51))
  generalize (w.alloc (.cells #[.int .i64 3, .int .i64 a, .int .i64 b', .int .i64 c, .string os, .string ot] 49)).alloc (.cells #[.int .i64 0, .int .i64 0, .int .i64 0, .string ⟨#[]⟩] 51) = w0 at *
  obtain ⟨pa, hpa⟩ : ∃ pa, pa = w.heap.size + 1 := ⟨_, rfl⟩
  rw [← hpa] at BX ⊢
  obtain ⟨pO, hpO⟩ : ∃ pO, pO = w.heap.size := ⟨_, rfl⟩
  rw [← hpO] at OA ⊢
  have HPA : Hid (pa = w.heap.size + 1 ∧ pO = w.heap.size) := ⟨hpa, hpO⟩
  have haP : P ≠ pa := by omega
  have hOP : P ≠ pO := by omega
  have haO : pa ≠ pO := by omega
  clear hpa hpO
  have G0 := hid (HG.out.fr F0.out (fun h => h))
  have d0 := (OA.out 0 _ rfl).c
  have d1 := (OA.out 1 _ rfl).c
  have d2 := (OA.out 2 _ rfl).c
  have d3 := (OA.out 3 _ rfl).c
  have d4 := (OA.out 4 _ rfl).c
  have d5 := (OA.out 5 _ rfl).c
  have F0' := hid F0.out
  go_wp2_with fail
  have HA := otransfer_any G0.out OK.out BL.out a b' c
  simp only [ansV] at HA
  refine HA.mono ?_
  clear HA
  rintro e w1 ⟨rfl, g1, kp, f1⟩
  have B1 := hid (BX.out.fr f1 (fun e => haP e.symm))
  have G1 := hid g1
  have KP := hid kp
  have F1 : Hid (Fr (fun i => i = P) w w1) := (F0'.out.mono (fun _ _ h => h.elim)).trans f1
  clear f1 g1 kp BX OA G0 d0 d1 d2 d3 d4 d5
  go_upto_region 18 with fail
  have B2 := hid (B1.out.fr ((Fr.refl (fun _ => False) w1).alloc (.cells #[.int .i64 (trE s a b' c), .int .i64 (trN s a b' c), .int .i64 0, .string ⟨#[]⟩] 51)) (fun h => h))
  have G2 := hid (G1.out.fr ((Fr.refl (fun _ => False) w1).alloc (.cells #[.int .i64 (trE s a b' c), .int .i64 (trN s a b' c), .int .i64 0, .string ⟨#[]⟩] 51)) (fun h => h))
  have F2 := hid (F1.out.alloc (.cells #[.int .i64 (trE s a b' c), .int .i64 (trN s a b' c), .int .i64 0, .string ⟨#[]⟩] 51))
  have AN : Hid (∀ q u, (#[.int .i64 (trE s a b' c), .int .i64 (trN s a b' c), .int .i64 0, .string ⟨#[]⟩] : Array Value)[q]? = some u → At (w1.alloc (.cells #[.int .i64 (trE s a b' c), .int .i64 (trN s a b' c), .int .i64 0, .string ⟨#[]⟩] 51)) w1.heap.size q u) := fun q u hu => At.new w1 _ _ hu
  have hnw : pa ≠ w1.heap.size := Nat.ne_of_lt B1.out.a0.lt
  clear B1 G1 F1
  generalize w1.alloc (.cells #[.int .i64 (trE s a b' c), .int .i64 (trN s a b' c), .int .i64 0, .string ⟨#[]⟩] 51) = w2 at *
  generalize w1.heap.size = p2 at *
  have c0 := B2.out.a0.c
  have x0 := B2.out.a0.f
  have c1 := B2.out.a1.c
  have x1 := B2.out.a1.f
  have c2 := B2.out.a2.c
  have x2 := B2.out.a2.f
  have c3 := B2.out.a3.c
  have x3 := B2.out.a3.f
  have n0 := (AN.out 0 _ rfl).c
  have n1 := (AN.out 1 _ rfl).c
  have n2 := (AN.out 2 _ rfl).c
  have n3 := (AN.out 3 _ rfl).c
  go_wp2_with fail
  refine retO3 Try.results27 rfl rfl rfl rfl B2.out.a0.has B2.out.a1.has B2.out.a2.has B2.out.a3.has ?_
  exact ⟨rfl, G2.out.fr (S := fun i => i = pa) (in_fr pa _ _ (in_fr _ _ _ (in_fr _ _ _ (in_fr _ _ _ (Fr.refl _ _))))) haP, KP.out, F2.out.then (S' := fun i => i = pa) (in_fr pa _ _ (in_fr _ _ _ (in_fr _ _ _ (in_fr _ _ _ (Fr.refl _ _))))) (fun i hi e => by have := HPA.out; omega)⟩

theorem own_cen {w : World} {P : Nat} {s : Led} {v : Value} (g : GH w P s.bal s.un s.lk.op v) (ok : s.lk.Ok) (bl : ∀ k, k < 4 → 0 ≤ s.bal k ∧ s.bal k ≤ 250) (tot : sum4 s.bal = 400) (o : Stp) (hk : o.kind = 11) :
    Calls Try.prog 27 #[.pointer (some ⟨P, 0, none⟩), o.val] w (OwnP w P s v o) := by
  obtain ⟨kind, a, b', c, os, ot⟩ := o
  simp only at hk
  subst hk
  have HV : Hid (doE s ⟨11, a, b', c, os, ot⟩ = (cenA s).2.1 ∧ doN s ⟨11, a, b', c, os, ot⟩ = (cenA s).1 ∧ doS s ⟨11, a, b', c, os, ot⟩ = cenS s ∧ owT s ⟨11, a, b', c, os, ot⟩ = (cenS s).lk.tr ∧ owC ⟨11, a, b', c, os, ot⟩ = true) := by
    refine ⟨by simp [doE], by simp [doN], by simp [doS], by simp [owT, owC, doS], by simp [owC]⟩
  unfold OwnP
  rw [HV.out.1, HV.out.2.1, HV.out.2.2.1, HV.out.2.2.2.1, HV.out.2.2.2.2]
  clear HV
  simp only [Stp.val, ansV]
  have HG := hid g
  have OK := hid ok
  have BL := hid bl
  have HT := hid tot
  have hP : P < w.heap.size := g.lt
  clear g ok bl tot
  go_enter Try.func27, Try.ntmps27
  go_upto_region 1 with fail
  have BX := hid (do_box (w := w) (F := fun _ => False) (fun i h => h.elim) (Fr.refl (fun _ => False) ((w.alloc (.cells #[.int .i64 11, .int .i64 a, .int .i64 b', .int .i64 c, .string os, .string ot] 49)).alloc (.cells #[.int .i64 0, .int .i64 0, .int .i64 0, .string ⟨#[]⟩] 51))))
  have OA : Hid (∀ q u, (#[.int .i64 11, .int .i64 a, .int .i64 b', .int .i64 c, .string os, .string ot] : Array Value)[q]? = some u → At ((w.alloc (.cells #[.int .i64 11, .int .i64 a, .int .i64 b', .int .i64 c, .string os, .string ot] 49)).alloc (.cells #[.int .i64 0, .int .i64 0, .int .i64 0, .string ⟨#[]⟩] 51)) w.heap.size q u) := fun q u hu => (At.new w _ _ hu).alloc _
  have F0 := hid (two_fr w (.cells #[.int .i64 11, .int .i64 a, .int .i64 b', .int .i64 c, .string os, .string ot] 49) (.cells #[.int .i64 0, .int .i64 0, .int .i64 0, .string ⟨#[]⟩] 51))
  generalize (w.alloc (.cells #[.int .i64 11, .int .i64 a, .int .i64 b', .int .i64 c, .string os, .string ot] 49)).alloc (.cells #[.int .i64 0, .int .i64 0, .int .i64 0, .string ⟨#[]⟩] 51) = w0 at *
  obtain ⟨pa, hpa⟩ : ∃ pa, pa = w.heap.size + 1 := ⟨_, rfl⟩
  rw [← hpa] at BX ⊢
  obtain ⟨pO, hpO⟩ : ∃ pO, pO = w.heap.size := ⟨_, rfl⟩
  rw [← hpO] at OA ⊢
  have HPA : Hid (pa = w.heap.size + 1 ∧ pO = w.heap.size) := ⟨hpa, hpO⟩
  have haP : P ≠ pa := by omega
  have hOP : P ≠ pO := by omega
  have haO : pa ≠ pO := by omega
  clear hpa hpO
  have G0 := hid (HG.out.fr F0.out (fun h => h))
  have d0 := (OA.out 0 _ rfl).c
  have d1 := (OA.out 1 _ rfl).c
  have d2 := (OA.out 2 _ rfl).c
  have d3 := (OA.out 3 _ rfl).c
  have d4 := (OA.out 4 _ rfl).c
  have d5 := (OA.out 5 _ rfl).c
  have F0' := hid F0.out
  go_wp2_with fail
  have HA := ocensus_any G0.out OK.out HT.out
  simp only [ansV] at HA
  refine HA.mono ?_
  clear HA
  rintro e w1 ⟨rfl, kp, f1'⟩
  have g1 : GH w1 P (cenS s).bal (cenS s).un s.lk.op v := G0.out.fr f1' (fun h => h)
  have f1 := f1'.mono (S' := fun i => i = P) (fun _ _ h => h.elim)
  clear f1'
  have B1 := hid (BX.out.fr f1 (fun e => haP e.symm))
  have G1 := hid g1
  have KP := hid kp
  have F1 : Hid (Fr (fun i => i = P) w w1) := (F0'.out.mono (fun _ _ h => h.elim)).trans f1
  clear f1 g1 kp BX OA G0 d0 d1 d2 d3 d4 d5
  go_upto_region 27 with fail
  have B2 := hid (B1.out.fr ((Fr.refl (fun _ => False) w1).alloc (.cells #[.int .i64 ((cenA s).2.1), .int .i64 ((cenA s).1), .int .i64 0, .string ⟨#[]⟩] 51)) (fun h => h))
  have G2 := hid (G1.out.fr ((Fr.refl (fun _ => False) w1).alloc (.cells #[.int .i64 ((cenA s).2.1), .int .i64 ((cenA s).1), .int .i64 0, .string ⟨#[]⟩] 51)) (fun h => h))
  have F2 := hid (F1.out.alloc (.cells #[.int .i64 ((cenA s).2.1), .int .i64 ((cenA s).1), .int .i64 0, .string ⟨#[]⟩] 51))
  have AN : Hid (∀ q u, (#[.int .i64 ((cenA s).2.1), .int .i64 ((cenA s).1), .int .i64 0, .string ⟨#[]⟩] : Array Value)[q]? = some u → At (w1.alloc (.cells #[.int .i64 ((cenA s).2.1), .int .i64 ((cenA s).1), .int .i64 0, .string ⟨#[]⟩] 51)) w1.heap.size q u) := fun q u hu => At.new w1 _ _ hu
  have hnw : pa ≠ w1.heap.size := Nat.ne_of_lt B1.out.a0.lt
  clear B1 G1 F1
  generalize w1.alloc (.cells #[.int .i64 ((cenA s).2.1), .int .i64 ((cenA s).1), .int .i64 0, .string ⟨#[]⟩] 51) = w2 at *
  generalize w1.heap.size = p2 at *
  have c0 := B2.out.a0.c
  have x0 := B2.out.a0.f
  have c1 := B2.out.a1.c
  have x1 := B2.out.a1.f
  have c2 := B2.out.a2.c
  have x2 := B2.out.a2.f
  have c3 := B2.out.a3.c
  have x3 := B2.out.a3.f
  have n0 := (AN.out 0 _ rfl).c
  have n1 := (AN.out 1 _ rfl).c
  have n2 := (AN.out 2 _ rfl).c
  have n3 := (AN.out 3 _ rfl).c
  go_wp2_with fail
  refine retO3 Try.results27 rfl rfl rfl rfl B2.out.a0.has B2.out.a1.has B2.out.a2.has B2.out.a3.has ?_
  exact ⟨rfl, G2.out.fr (S := fun i => i = pa) (in_fr pa _ _ (in_fr _ _ _ (in_fr _ _ _ (in_fr _ _ _ (Fr.refl _ _))))) haP, KP.out, F2.out.then (S' := fun i => i = pa) (in_fr pa _ _ (in_fr _ _ _ (in_fr _ _ _ (in_fr _ _ _ (Fr.refl _ _))))) (fun i hi e => by have := HPA.out; omega)⟩

theorem own_batl {w : World} {P : Nat} {s : Led} {v : Value} (g : GH w P s.bal s.un s.lk.op v) (ok : s.lk.Ok) (bl : ∀ k, k < 4 → 0 ≤ s.bal k ∧ s.bal k ≤ 250) (tot : sum4 s.bal = 400) (o : Stp) (hk : o.kind = 5) (hl : 3 < (movs o.s o.a o.b o.c).length) :
    Calls Try.prog 27 #[.pointer (some ⟨P, 0, none⟩), o.val] w (OwnP w P s v o) := by
  obtain ⟨kind, a, b', c, os, ot⟩ := o
  simp only at hk
  subst hk
  have hl' : 3 < (movs os a b' c).length := hl
  clear hl
  have HV : Hid (doE s ⟨5, a, b', c, os, ot⟩ = 1 ∧ doN s ⟨5, a, b', c, os, ot⟩ = 0 ∧ doS s ⟨5, a, b', c, os, ot⟩ = s ∧ owT s ⟨5, a, b', c, os, ot⟩ = [] ∧ owC ⟨5, a, b', c, os, ot⟩ = false) := by
    have hn : ¬ (movs os a b' c).length ≤ 3 := by omega
    refine ⟨by simp [doE, batE, hl'], by simp [doN, batN, hl'], by simp [doS, batS, hl'], by simp [owT, owC, hn], by simp [owC, hn]⟩
  unfold OwnP
  rw [HV.out.1, HV.out.2.1, HV.out.2.2.1, HV.out.2.2.2.1, HV.out.2.2.2.2]
  clear HV
  simp only [Stp.val, ansV]
  have HG := hid g
  have OK := hid ok
  have BL := hid bl
  have HT := hid tot
  have hP : P < w.heap.size := g.lt
  clear g ok bl tot
  go_enter Try.func27, Try.ntmps27
  go_upto_region 1 with fail
  have BX := hid (do_box (w := w) (F := fun _ => False) (fun i h => h.elim) (Fr.refl (fun _ => False) ((w.alloc (.cells #[.int .i64 5, .int .i64 a, .int .i64 b', .int .i64 c, .string os, .string ot] 49)).alloc (.cells #[.int .i64 0, .int .i64 0, .int .i64 0, .string ⟨#[]⟩] 51))))
  have OA : Hid (∀ q u, (#[.int .i64 5, .int .i64 a, .int .i64 b', .int .i64 c, .string os, .string ot] : Array Value)[q]? = some u → At ((w.alloc (.cells #[.int .i64 5, .int .i64 a, .int .i64 b', .int .i64 c, .string os, .string ot] 49)).alloc (.cells #[.int .i64 0, .int .i64 0, .int .i64 0, .string ⟨#[]⟩] 51)) w.heap.size q u) := fun q u hu => (At.new w _ _ hu).alloc _
  have F0 := hid (two_fr w (.cells #[.int .i64 5, .int .i64 a, .int .i64 b', .int .i64 c, .string os, .string ot] 49) (.cells #[.int .i64 0, .int .i64 0, .int .i64 0, .string ⟨#[]⟩] 51))
  generalize (w.alloc (.cells #[.int .i64 5, .int .i64 a, .int .i64 b', .int .i64 c, .string os, .string ot] 49)).alloc (.cells #[.int .i64 0, .int .i64 0, .int .i64 0, .string ⟨#[]⟩] 51) = w0 at *
  obtain ⟨pa, hpa⟩ : ∃ pa, pa = w.heap.size + 1 := ⟨_, rfl⟩
  rw [← hpa] at BX ⊢
  obtain ⟨pO, hpO⟩ : ∃ pO, pO = w.heap.size := ⟨_, rfl⟩
  rw [← hpO] at OA ⊢
  have HPA : Hid (pa = w.heap.size + 1 ∧ pO = w.heap.size) := ⟨hpa, hpO⟩
  have haP : P ≠ pa := by omega
  have hOP : P ≠ pO := by omega
  have haO : pa ≠ pO := by omega
  clear hpa hpO
  have G0 := hid (HG.out.fr F0.out (fun h => h))
  have d0 := (OA.out 0 _ rfl).c
  have d1 := (OA.out 1 _ rfl).c
  have d2 := (OA.out 2 _ rfl).c
  have d3 := (OA.out 3 _ rfl).c
  have d4 := (OA.out 4 _ rfl).c
  have d5 := (OA.out 5 _ rfl).c
  go_wp2_with fail
  refine (moves_any os a b' c w0).mono ?_
  rintro e w1 ⟨vv, rfl, ow, f1⟩
  obtain ⟨xa, cap, rfl, mv, hx⟩ := ow.mvs
  have B1 := hid (BX.out.fr f1 (fun h => h))
  have G1 := hid (G0.out.fr f1 (fun h => h))
  have F1 := hid (F0.out.trans f1)
  have hlI : (3 : Int) < (((movs os a b' c).length : Nat) : Int) := by omega
  clear ow mv hx f1 BX OA G0 F0 d0 d1 d2 d3 d4 d5
  generalize (movs os a b' c).length = ln at *
  have c0 := B1.out.a0.c
  have x0 := B1.out.a0.f
  have c1 := B1.out.a1.c
  have x1 := B1.out.a1.f
  have c2 := B1.out.a2.c
  have x2 := B1.out.a2.f
  have c3 := B1.out.a3.c
  have x3 := B1.out.a3.f
  go_wp2_with fail
  refine retO3 Try.results27 rfl rfl rfl rfl B1.out.a0.has B1.out.a1.has B1.out.a2.has B1.out.a3.has ?_
  exact ⟨rfl, G1.out.fr (S := fun i => i = pa) (in_fr pa _ _ (in_fr _ _ _ (in_fr _ _ _ (in_fr _ _ _ (Fr.refl _ _))))) haP, Kept.refl _, (F1.out.mono (fun _ _ h => h.elim)).then (S' := fun i => i = pa) (in_fr pa _ _ (in_fr _ _ _ (in_fr _ _ _ (in_fr _ _ _ (Fr.refl _ _))))) (fun i hi e => by have := HPA.out; omega)⟩

theorem own_bat {w : World} {P : Nat} {s : Led} {v : Value} (g : GH w P s.bal s.un s.lk.op v) (ok : s.lk.Ok) (bl : ∀ k, k < 4 → 0 ≤ s.bal k ∧ s.bal k ≤ 250) (tot : sum4 s.bal = 400) (o : Stp) (hk : o.kind = 5) (hl : (movs o.s o.a o.b o.c).length ≤ 3) :
    Calls Try.prog 27 #[.pointer (some ⟨P, 0, none⟩), o.val] w (OwnP w P s v o) := by
  obtain ⟨kind, a, b', c, os, ot⟩ := o
  simp only at hk
  subst hk
  have hl' : (movs os a b' c).length ≤ 3 := hl
  clear hl
  have HV : Hid (doE s ⟨5, a, b', c, os, ot⟩ = batE s (movs os a b' c) ∧ doN s ⟨5, a, b', c, os, ot⟩ = batN s (movs os a b' c) ∧ doS s ⟨5, a, b', c, os, ot⟩ = batS s (movs os a b' c) ∧ owT s ⟨5, a, b', c, os, ot⟩ = (batS s (movs os a b' c)).lk.tr ∧ owC ⟨5, a, b', c, os, ot⟩ = true) := by
    refine ⟨by simp [doE], by simp [doN], by simp [doS], by simp [owT, owC, doS, hl'], by simp [owC, hl']⟩
  unfold OwnP
  rw [HV.out.1, HV.out.2.1, HV.out.2.2.1, HV.out.2.2.2.1, HV.out.2.2.2.2]
  clear HV
  simp only [Stp.val, ansV]
  have HG := hid g
  have OK := hid ok
  have BL := hid bl
  have HT := hid tot
  have hP : P < w.heap.size := g.lt
  clear g ok bl tot
  go_enter Try.func27, Try.ntmps27
  go_upto_region 1 with fail
  have BX := hid (do_box (w := w) (F := fun _ => False) (fun i h => h.elim) (Fr.refl (fun _ => False) ((w.alloc (.cells #[.int .i64 5, .int .i64 a, .int .i64 b', .int .i64 c, .string os, .string ot] 49)).alloc (.cells #[.int .i64 0, .int .i64 0, .int .i64 0, .string ⟨#[]⟩] 51))))
  have OA : Hid (∀ q u, (#[.int .i64 5, .int .i64 a, .int .i64 b', .int .i64 c, .string os, .string ot] : Array Value)[q]? = some u → At ((w.alloc (.cells #[.int .i64 5, .int .i64 a, .int .i64 b', .int .i64 c, .string os, .string ot] 49)).alloc (.cells #[.int .i64 0, .int .i64 0, .int .i64 0, .string ⟨#[]⟩] 51)) w.heap.size q u) := fun q u hu => (At.new w _ _ hu).alloc _
  have F0 := hid (two_fr w (.cells #[.int .i64 5, .int .i64 a, .int .i64 b', .int .i64 c, .string os, .string ot] 49) (.cells #[.int .i64 0, .int .i64 0, .int .i64 0, .string ⟨#[]⟩] 51))
  generalize (w.alloc (.cells #[.int .i64 5, .int .i64 a, .int .i64 b', .int .i64 c, .string os, .string ot] 49)).alloc (.cells #[.int .i64 0, .int .i64 0, .int .i64 0, .string ⟨#[]⟩] 51) = w0 at *
  obtain ⟨pa, hpa⟩ : ∃ pa, pa = w.heap.size + 1 := ⟨_, rfl⟩
  rw [← hpa] at BX ⊢
  obtain ⟨pO, hpO⟩ : ∃ pO, pO = w.heap.size := ⟨_, rfl⟩
  rw [← hpO] at OA ⊢
  have HPA : Hid (pa = w.heap.size + 1 ∧ pO = w.heap.size) := ⟨hpa, hpO⟩
  have haP : P ≠ pa := by omega
  have hOP : P ≠ pO := by omega
  have haO : pa ≠ pO := by omega
  clear hpa hpO
  have G0 := hid (HG.out.fr F0.out (fun h => h))
  have d0 := (OA.out 0 _ rfl).c
  have d1 := (OA.out 1 _ rfl).c
  have d2 := (OA.out 2 _ rfl).c
  have d3 := (OA.out 3 _ rfl).c
  have d4 := (OA.out 4 _ rfl).c
  have d5 := (OA.out 5 _ rfl).c
  go_wp2_with fail
  refine (moves_any os a b' c w0).mono ?_
  rintro e w1 ⟨vv, rfl, ow, f1⟩
  obtain ⟨xa, cap, rfl, mv, hx⟩ := ow.mvs
  have hlI : ¬ (3 : Int) < (((movs os a b' c).length : Nat) : Int) := by omega
  have HB' := hid (fun (B off : Nat) (e : xa = some ⟨B, off, none⟩) => show B ≠ P from fun c => by have := hx B off e; have := G0.out.lt; omega)
  have MV := hid mv
  have F0' := hid (F0.out.trans f1)
  have BX := hid (BX.out.fr f1 (fun h => h))
  have OA := hid (fun q u hu => (OA.out q u hu).fr f1 (fun h => h))
  have G0 := hid (G0.out.fr f1 (fun h => h))
  clear ow mv hx f1 F0 d0 d1 d2 d3 d4 d5
  have d0 := (OA.out 0 _ rfl).c
  have d1 := (OA.out 1 _ rfl).c
  have d2 := (OA.out 2 _ rfl).c
  have d3 := (OA.out 3 _ rfl).c
  have d4 := (OA.out 4 _ rfl).c
  have d5 := (OA.out 5 _ rfl).c
  go_wp2_with fail
  have HA := obatch_any G0.out OK.out BL.out MV.out hl' HB'.out cap
  simp only [ansV] at HA
  refine HA.mono ?_
  clear HA
  rintro e w1 ⟨rfl, g1, kp, f1⟩
  have B1 := hid (BX.out.fr f1 (fun e => haP e.symm))
  have G1 := hid g1
  have KP := hid kp
  have F1 : Hid (Fr (fun i => i = P) w w1) := (F0'.out.mono (fun _ _ h => h.elim)).trans f1
  clear f1 g1 kp BX OA G0 d0 d1 d2 d3 d4 d5
  go_upto_region 24 with fail
  have B2 := hid (B1.out.fr ((Fr.refl (fun _ => False) w1).alloc (.cells #[.int .i64 (batE s (movs os a b' c)), .int .i64 (batN s (movs os a b' c)), .int .i64 0, .string ⟨#[]⟩] 51)) (fun h => h))
  have G2 := hid (G1.out.fr ((Fr.refl (fun _ => False) w1).alloc (.cells #[.int .i64 (batE s (movs os a b' c)), .int .i64 (batN s (movs os a b' c)), .int .i64 0, .string ⟨#[]⟩] 51)) (fun h => h))
  have F2 := hid (F1.out.alloc (.cells #[.int .i64 (batE s (movs os a b' c)), .int .i64 (batN s (movs os a b' c)), .int .i64 0, .string ⟨#[]⟩] 51))
  have AN : Hid (∀ q u, (#[.int .i64 (batE s (movs os a b' c)), .int .i64 (batN s (movs os a b' c)), .int .i64 0, .string ⟨#[]⟩] : Array Value)[q]? = some u → At (w1.alloc (.cells #[.int .i64 (batE s (movs os a b' c)), .int .i64 (batN s (movs os a b' c)), .int .i64 0, .string ⟨#[]⟩] 51)) w1.heap.size q u) := fun q u hu => At.new w1 _ _ hu
  have hnw : pa ≠ w1.heap.size := Nat.ne_of_lt B1.out.a0.lt
  clear B1 G1 F1
  generalize w1.alloc (.cells #[.int .i64 (batE s (movs os a b' c)), .int .i64 (batN s (movs os a b' c)), .int .i64 0, .string ⟨#[]⟩] 51) = w2 at *
  generalize w1.heap.size = p2 at *
  have c0 := B2.out.a0.c
  have x0 := B2.out.a0.f
  have c1 := B2.out.a1.c
  have x1 := B2.out.a1.f
  have c2 := B2.out.a2.c
  have x2 := B2.out.a2.f
  have c3 := B2.out.a3.c
  have x3 := B2.out.a3.f
  have n0 := (AN.out 0 _ rfl).c
  have n1 := (AN.out 1 _ rfl).c
  have n2 := (AN.out 2 _ rfl).c
  have n3 := (AN.out 3 _ rfl).c
  go_wp2_with fail
  refine retO3 Try.results27 rfl rfl rfl rfl B2.out.a0.has B2.out.a1.has B2.out.a2.has B2.out.a3.has ?_
  exact ⟨rfl, G2.out.fr (S := fun i => i = pa) (in_fr pa _ _ (in_fr _ _ _ (in_fr _ _ _ (in_fr _ _ _ (Fr.refl _ _))))) haP, KP.out, F2.out.then (S' := fun i => i = pa) (in_fr pa _ _ (in_fr _ _ _ (in_fr _ _ _ (in_fr _ _ _ (Fr.refl _ _))))) (fun i hi e => by have := HPA.out; omega)⟩

theorem own_aud {w : World} {P : Nat} {s : Led} {v : Value} (g : GH w P s.bal s.un s.lk.op v) (ok : s.lk.Ok) (bl : ∀ k, k < 4 → 0 ≤ s.bal k ∧ s.bal k ≤ 250) (tot : sum4 s.bal = 400) (o : Stp) (hk : o.kind = 6) :
    Calls Try.prog 27 #[.pointer (some ⟨P, 0, none⟩), o.val] w (OwnP w P s v o) := by
  obtain ⟨kind, a, b', c, os, ot⟩ := o
  simp only at hk
  subst hk
  have HV : Hid (doE s ⟨6, a, b', c, os, ot⟩ = 0 ∧ doN s ⟨6, a, b', c, os, ot⟩ = 400 ∧ doS s ⟨6, a, b', c, os, ot⟩ = s ∧ owT s ⟨6, a, b', c, os, ot⟩ = [] ∧ owC ⟨6, a, b', c, os, ot⟩ = false) := by
    refine ⟨by simp [doE], by simp [doN], by simp [doS], by simp [owT, owC], by simp [owC]⟩
  unfold OwnP
  rw [HV.out.1, HV.out.2.1, HV.out.2.2.1, HV.out.2.2.2.1, HV.out.2.2.2.2]
  clear HV
  simp only [Stp.val, ansV]
  have HG := hid g
  have OK := hid ok
  have BL := hid bl
  have HT := hid tot
  have hP : P < w.heap.size := g.lt
  clear g ok bl tot
  go_enter Try.func27, Try.ntmps27
  go_upto_region 1 with fail
  have BX := hid (do_box (w := w) (F := fun _ => False) (fun i h => h.elim) (Fr.refl (fun _ => False) ((w.alloc (.cells #[.int .i64 6, .int .i64 a, .int .i64 b', .int .i64 c, .string os, .string ot] 49)).alloc (.cells #[.int .i64 0, .int .i64 0, .int .i64 0, .string ⟨#[]⟩] 51))))
  have OA : Hid (∀ q u, (#[.int .i64 6, .int .i64 a, .int .i64 b', .int .i64 c, .string os, .string ot] : Array Value)[q]? = some u → At ((w.alloc (.cells #[.int .i64 6, .int .i64 a, .int .i64 b', .int .i64 c, .string os, .string ot] 49)).alloc (.cells #[.int .i64 0, .int .i64 0, .int .i64 0, .string ⟨#[]⟩] 51)) w.heap.size q u) := fun q u hu => (At.new w _ _ hu).alloc _
  have F0 := hid (two_fr w (.cells #[.int .i64 6, .int .i64 a, .int .i64 b', .int .i64 c, .string os, .string ot] 49) (.cells #[.int .i64 0, .int .i64 0, .int .i64 0, .string ⟨#[]⟩] 51))
  generalize (w.alloc (.cells #[.int .i64 6, .int .i64 a, .int .i64 b', .int .i64 c, .string os, .string ot] 49)).alloc (.cells #[.int .i64 0, .int .i64 0, .int .i64 0, .string ⟨#[]⟩] 51) = w0 at *
  obtain ⟨pa, hpa⟩ : ∃ pa, pa = w.heap.size + 1 := ⟨_, rfl⟩
  rw [← hpa] at BX ⊢
  obtain ⟨pO, hpO⟩ : ∃ pO, pO = w.heap.size := ⟨_, rfl⟩
  rw [← hpO] at OA ⊢
  have HPA : Hid (pa = w.heap.size + 1 ∧ pO = w.heap.size) := ⟨hpa, hpO⟩
  have haP : P ≠ pa := by omega
  have hOP : P ≠ pO := by omega
  have haO : pa ≠ pO := by omega
  clear hpa hpO
  have G0 := hid (HG.out.fr F0.out (fun h => h))
  have d0 := (OA.out 0 _ rfl).c
  have d1 := (OA.out 1 _ rfl).c
  have d2 := (OA.out 2 _ rfl).c
  have d3 := (OA.out 3 _ rfl).c
  have d4 := (OA.out 4 _ rfl).c
  have d5 := (OA.out 5 _ rfl).c
  have c0 := BX.out.a0.c
  have x0 := BX.out.a0.f
  have c1 := BX.out.a1.c
  have x1 := BX.out.a1.f
  have c2 := BX.out.a2.c
  have x2 := BX.out.a2.f
  have c3 := BX.out.a3.c
  have x3 := BX.out.a3.f
  go_wp2_with fail
  refine retO3 Try.results27 rfl rfl rfl rfl BX.out.a0.has BX.out.a1.has BX.out.a2.has BX.out.a3.has ?_
  exact ⟨rfl, G0.out.fr (S := fun i => i = pa) (in_fr pa _ _ (in_fr _ _ _ (in_fr _ _ _ (in_fr _ _ _ (Fr.refl _ _))))) haP, Kept.refl _, (F0.out.mono (fun _ _ h => h.elim)).then (S' := fun i => i = pa) (in_fr pa _ _ (in_fr _ _ _ (in_fr _ _ _ (in_fr _ _ _ (Fr.refl _ _))))) (fun i hi e => by have := HPA.out; omega)⟩

theorem own_non {w : World} {P : Nat} {s : Led} {v : Value} (g : GH w P s.bal s.un s.lk.op v) (ok : s.lk.Ok) (bl : ∀ k, k < 4 → 0 ≤ s.bal k ∧ s.bal k ≤ 250) (tot : sum4 s.bal = 400) (o : Stp) (k2 : ¬ o.kind = 2) (k3 : ¬ o.kind = 3) (k4 : ¬ o.kind = 4) (k5 : ¬ o.kind = 5) (k11 : ¬ o.kind = 11) (k6 : ¬ o.kind = 6) :
    Calls Try.prog 27 #[.pointer (some ⟨P, 0, none⟩), o.val] w (OwnP w P s v o) := by
  obtain ⟨kind, a, b', c, os, ot⟩ := o
  simp only at k2 k3 k4 k5 k11 k6
  have HV : Hid (doE s ⟨kind, a, b', c, os, ot⟩ = 0 ∧ doN s ⟨kind, a, b', c, os, ot⟩ = 0 ∧ doS s ⟨kind, a, b', c, os, ot⟩ = s ∧ owT s ⟨kind, a, b', c, os, ot⟩ = [] ∧ owC ⟨kind, a, b', c, os, ot⟩ = false) := by
    refine ⟨by simp [doE, k2, k3, k4, k5, k11], by simp [doN, k2, k3, k4, k5, k11, k6], by simp [doS, k2, k3, k4, k5, k11], by simp [owT, owC, k2, k3, k4, k5, k11], by simp [owC, k2, k3, k4, k5, k11]⟩
  unfold OwnP
  rw [HV.out.1, HV.out.2.1, HV.out.2.2.1, HV.out.2.2.2.1, HV.out.2.2.2.2]
  clear HV
  simp only [Stp.val, ansV]
  have HG := hid g
  have OK := hid ok
  have BL := hid bl
  have HT := hid tot
  have hP : P < w.heap.size := g.lt
  clear g ok bl tot
  have j2 : (kind == 2) = false := beq_eq_false_iff_ne.2 k2
  have j3 : (kind == 3) = false := beq_eq_false_iff_ne.2 k3
  have j4 : (kind == 4) = false := beq_eq_false_iff_ne.2 k4
  have j5 : (kind == 5) = false := beq_eq_false_iff_ne.2 k5
  have j11 : (kind == 11) = false := beq_eq_false_iff_ne.2 k11
  have j6 : (kind == 6) = false := beq_eq_false_iff_ne.2 k6
  clear k2 k3 k4 k5 k11 k6
  go_enter Try.func27, Try.ntmps27
  go_upto_region 1 with fail
  have BX := hid (do_box (w := w) (F := fun _ => False) (fun i h => h.elim) (Fr.refl (fun _ => False) ((w.alloc (.cells #[.int .i64 kind, .int .i64 a, .int .i64 b', .int .i64 c, .string os, .string ot] 49)).alloc (.cells #[.int .i64 0, .int .i64 0, .int .i64 0, .string ⟨#[]⟩] 51))))
  have OA : Hid (∀ q u, (#[.int .i64 kind, .int .i64 a, .int .i64 b', .int .i64 c, .string os, .string ot] : Array Value)[q]? = some u → At ((w.alloc (.cells #[.int .i64 kind, .int .i64 a, .int .i64 b', .int .i64 c, .string os, .string ot] 49)).alloc (.cells #[.int .i64 0, .int .i64 0, .int .i64 0, .string ⟨#[]⟩] 51)) w.heap.size q u) := fun q u hu => (At.new w _ _ hu).alloc _
  have F0 := hid (two_fr w (.cells #[.int .i64 kind, .int .i64 a, .int .i64 b', .int .i64 c, .string os, .string ot] 49) (.cells #[.int .i64 0, .int .i64 0, .int .i64 0, .string ⟨#[]⟩] 51))
  generalize (w.alloc (.cells #[.int .i64 kind, .int .i64 a, .int .i64 b', .int .i64 c, .string os, .string ot] 49)).alloc (.cells #[.int .i64 0, .int .i64 0, .int .i64 0, .string ⟨#[]⟩] 51) = w0 at *
  obtain ⟨pa, hpa⟩ : ∃ pa, pa = w.heap.size + 1 := ⟨_, rfl⟩
  rw [← hpa] at BX ⊢
  obtain ⟨pO, hpO⟩ : ∃ pO, pO = w.heap.size := ⟨_, rfl⟩
  rw [← hpO] at OA ⊢
  have HPA : Hid (pa = w.heap.size + 1 ∧ pO = w.heap.size) := ⟨hpa, hpO⟩
  have haP : P ≠ pa := by omega
  have hOP : P ≠ pO := by omega
  have haO : pa ≠ pO := by omega
  clear hpa hpO
  have G0 := hid (HG.out.fr F0.out (fun h => h))
  have d0 := (OA.out 0 _ rfl).c
  have d1 := (OA.out 1 _ rfl).c
  have d2 := (OA.out 2 _ rfl).c
  have d3 := (OA.out 3 _ rfl).c
  have d4 := (OA.out 4 _ rfl).c
  have d5 := (OA.out 5 _ rfl).c
  have c0 := BX.out.a0.c
  have x0 := BX.out.a0.f
  have c1 := BX.out.a1.c
  have x1 := BX.out.a1.f
  have c2 := BX.out.a2.c
  have x2 := BX.out.a2.f
  have c3 := BX.out.a3.c
  have x3 := BX.out.a3.f
  go_wp2_with fail
  refine retO3 Try.results27 rfl rfl rfl rfl BX.out.a0.has BX.out.a1.has BX.out.a2.has BX.out.a3.has ?_
  exact ⟨rfl, G0.out.fr (S := fun i => i = pa) (in_fr pa _ _ (in_fr _ _ _ (in_fr _ _ _ (in_fr _ _ _ (Fr.refl _ _))))) haP, Kept.refl _, (F0.out.mono (fun _ _ h => h.elim)).then (S' := fun i => i = pa) (in_fr pa _ _ (in_fr _ _ _ (in_fr _ _ _ (in_fr _ _ _ (Fr.refl _ _))))) (fun i hi e => by have := HPA.out; omega)⟩

theorem owed_any {w : World} {P : Nat} {s : Led} {v : Value} (g : GH w P s.bal s.un s.lk.op v) (ok : s.lk.Ok) (bl : ∀ k, k < 4 → 0 ≤ s.bal k ∧ s.bal k ≤ 250) (tot : sum4 s.bal = 400) (o : Stp) :
    Calls Try.prog 27 #[.pointer (some ⟨P, 0, none⟩), o.val] w (OwnP w P s v o) := by
  by_cases k2 : o.kind = 2
  · exact own_bal g ok bl tot o k2
  by_cases k3 : o.kind = 3
  · exact own_tr g ok bl tot o k3
  by_cases k4 : o.kind = 4
  · by_cases hb : o.b < 0
    · exact own_spn g ok bl tot o k4 hb
    · by_cases hE : acqE s o.a = 0
      · by_cases h0 : o.b = 0
        · exact own_spz g ok bl tot o k4 h0 hE
        · exact own_spl g ok bl tot o k4 (by omega) hE
      · exact own_spe g ok bl tot o k4 hb hE
  by_cases k5 : o.kind = 5
  · by_cases hl : (movs o.s o.a o.b o.c).length ≤ 3
    · exact own_bat g ok bl tot o k5 hl
    · exact own_batl g ok bl tot o k5 (by omega)
  by_cases k11 : o.kind = 11
  · exact own_cen g ok bl tot o k11
  by_cases k6 : o.kind = 6
  · exact own_aud g ok bl tot o k6
  exact own_non g ok bl tot o k2 k3 k4 k5 k11 k6

end Go.Proofs.Qxb6500453a
