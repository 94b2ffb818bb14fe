/- Facts. -/
import Derived.Test.Qxb6500453aVFar
namespace Go.Proofs.Qxb6500453a
open Go Go.RowKit
set_option maxRecDepth 200000
set_option maxHeartbeats 3200000
set_option linter.unusedSimpArgs false
set_option linter.unusedVariables false

def f1a : Mv := ⟨0, 1, 5⟩
def f1b : Mv := ⟨1, 2, 7⟩
def f2a : Mv := ⟨0, 2, 95⟩
def f2b : Mv := ⟨1, 2, 98⟩
def fx : Mv := ⟨3, 3, -1⟩
def fS0 : Led := led0 L.init
def fS1 : Led := batS fS0 [f1a, f1b]
def fS2 : Led := batS fS1 [f2a, f2b]
def fS3 : Led := batS fS2 [fx, f2b]
def fS4 : Led := batS fS3 [f1a, fx]
theorem fN1 : batN fS0 [f1a, f1b] = 2 := by kernel_rfl
theorem fE1 : batE fS0 [f1a, f1b] = 0 := by kernel_rfl
theorem fN2 : batN fS1 [f2a, f2b] = 1 := by kernel_rfl
theorem fE2 : batE fS1 [f2a, f2b] = 7 := by kernel_rfl
theorem fN3 : batN fS2 [fx, f2b] = 0 := by kernel_rfl
theorem fE3 : batE fS2 [fx, f2b] = 2 := by kernel_rfl
theorem fN4 : batN fS3 [f1a, fx] = 1 := by kernel_rfl
theorem fE4 : batE fS3 [f1a, fx] = 2 := by kernel_rfl
theorem fShow : ∃ t : List UInt8, L.bs (showD fS4) = L.bs ([98, 97, 108, 61, 57, 53, 44, 57, 56, 44, 49, 48, 55, 44, 49, 48, 48, 44, 32, 117, 110, 100, 111, 110, 101, 61, 50, 32, 124, 32] ++ t) ∧ t.length ≤ 100 := by
  refine ⟨L.showL fS4.lk, ?_, ?_⟩
  · have : balL fS4.bal 4 ++ [32, 117, 110, 100, 111, 110, 101, 61] ++ Ia.itoa (fS4.un : Int) ++ [32, 124, 32] = [98, 97, 108, 61, 57, 53, 44, 57, 56, 44, 49, 48, 55, 44, 49, 48, 48, 44, 32, 117, 110, 100, 111, 110, 101, 61, 50, 32, 124, 32] := by kernel_rfl
    unfold showD
    rw [this]
  · have : (L.showL fS4.lk).length = 33 := by kernel_rfl
    omega

theorem facts_any (w : World) : Calls Try.prog 7 #[] w fun e w' => e = .returned (.bool true) ∧ Fr (fun _ => False) w w' := by
  go_enter Try.func7, Try.ntmps7
  go_wp2_with fail
  refine (ground_any w).mono ?_
  rintro e w1 ⟨bT, bC, bR, rfl, hr1, hge, f1⟩
  have HR1 := hid hr1
  have HGE := hid hge
  have F1 := hid f1
  clear hr1 hge f1
  go_wp2_with fail
  refine (lnew_any (HR1.out.fr ((Fr.refl (fun _ => False) w1).alloc _) (fun h => h) (fun h => h) (fun h => h))).mono ?_
  rintro e w2 ⟨b, rfl, t1, t2, t3, lr2, hge2, f2⟩
  have L2 : Hid (LR w2 b fS0) := lr2
  have F2 : Hid (Fr (fun _ => False) w w2) := ((F1.out.alloc _).trans f2)
  have GE : Hid (∀ i, SL b i → w.heap.size ≤ i) := fun i c => by
    rcases c with c | c
    · have h1 := hge2 i c
      have h2 := F1.out.size
      simp only [World.size_alloc] at h1
      omega
    · rw [t1, t2, t3] at c
      exact HGE.out i c
  clear t1 t2 t3 lr2 hge2 f2 HR1 HGE F1
  go_wp2_with fail
  have TA : Hid (Two (w2.alloc (.cells #[.int .i64 0, .int .i64 1, .int .i64 5, .int .i64 1, .int .i64 2, .int .i64 7] 33)) w2.heap.size f1a f1b) := Two.new w2 f1a f1b _
  have GPA : Hid (w.heap.size ≤ w2.heap.size) := F2.out.size
  have PA : Hid (¬ SL b w2.heap.size) := fun c => by have := L2.out.lt _ c; omega
  have L3 := hid (L2.out.fr ((Fr.refl (fun _ => False) w2).alloc (.cells #[.int .i64 0, .int .i64 1, .int .i64 5, .int .i64 1, .int .i64 2, .int .i64 7] 33)) (fun _ _ h => h))
  have F3 := hid (F2.out.alloc (.cells #[.int .i64 0, .int .i64 1, .int .i64 5, .int .i64 1, .int .i64 2, .int .i64 7] 33))
  clear L2 F2 
  generalize w2.alloc (.cells #[.int .i64 0, .int .i64 1, .int .i64 5, .int .i64 1, .int .i64 2, .int .i64 7] 33) = w3 at *
  generalize w2.heap.size = pa at *
  refine (batch_two L3.out TA.out PA.out 2 (s' := fS1) fN1 fE1 rfl).mono ?_
  rintro e w4 ⟨rfl, l, tw, f⟩
  have L4 := hid l
  have F4 : Hid (Fr (fun _ => False) w w4) := F3.out.then f (fun i hi c => by have := GE.out i c; omega)
  have TA' := hid tw
  clear TA l tw f 
  have TA := TA'
  clear TA'
  clear L3 F3
  have ta0 := TA.out.a0.c
  have ta1 := TA.out.a1.c
  have ta2 := TA.out.a2.c
  have ta3 := TA.out.a3.c
  have ta4 := TA.out.a4.c
  have ta5 := TA.out.a5.c
  simp only [f1a, f1b, f2a, f2b, fx] at ta0 ta1 ta2 ta3 ta4 ta5
  go_wp2_with fail
  clear ta0 ta1 ta2 ta3 ta4 ta5
  refine (lshow_any L4.out).mono ?_
  rintro e w5 ⟨rfl, f⟩
  have L5 := hid (L4.out.fr f (fun _ _ h => h))
  have F5 := hid (F4.out.trans f)
  have TA' := hid (TA.out.fr f (fun h => h))
  clear f L4 F4 TA
  have TA := TA'
  clear TA'
  go_wp2_with fail
  have V5 : Hid (Five (w5.alloc (.cells #[.int .i64 0, .int .i64 1, .int .i64 1, .int .i64 0, .int .i64 1, .int .i64 1, .int .i64 0, .int .i64 1, .int .i64 1, .int .i64 0, .int .i64 1, .int .i64 1, .int .i64 0, .int .i64 1, .int .i64 1] 33)) w5.heap.size) := by
    intro i hi
    have : i = 0 ∨ i = 1 ∨ i = 2 ∨ i = 3 ∨ i = 4 := by omega
    rcases this with rfl | rfl | rfl | rfl | rfl <;> exact ⟨At.new w5 _ _ rfl, At.new w5 _ _ rfl, At.new w5 _ _ rfl⟩
  have P5 : Hid (¬ SL b w5.heap.size) := fun c => by have := L5.out.lt _ c; omega
  have L6 := hid (L5.out.fr ((Fr.refl (fun _ => False) w5).alloc (.cells #[.int .i64 0, .int .i64 1, .int .i64 1, .int .i64 0, .int .i64 1, .int .i64 1, .int .i64 0, .int .i64 1, .int .i64 1, .int .i64 0, .int .i64 1, .int .i64 1, .int .i64 0, .int .i64 1, .int .i64 1] 33)) (fun _ _ h => h))
  have F6 := hid (F5.out.alloc (.cells #[.int .i64 0, .int .i64 1, .int .i64 1, .int .i64 0, .int .i64 1, .int .i64 1, .int .i64 0, .int .i64 1, .int .i64 1, .int .i64 0, .int .i64 1, .int .i64 1, .int .i64 0, .int .i64 1, .int .i64 1] 33))
  have TA' := hid (TA.out.fr ((Fr.refl (fun _ => False) w5).alloc (.cells #[.int .i64 0, .int .i64 1, .int .i64 1, .int .i64 0, .int .i64 1, .int .i64 1, .int .i64 0, .int .i64 1, .int .i64 1, .int .i64 0, .int .i64 1, .int .i64 1, .int .i64 0, .int .i64 1, .int .i64 1] 33)) (fun h => h))
  clear L5 F5 TA
  have TA := TA'
  clear TA'
  generalize w5.alloc (.cells #[.int .i64 0, .int .i64 1, .int .i64 1, .int .i64 0, .int .i64 1, .int .i64 1, .int .i64 0, .int .i64 1, .int .i64 1, .int .i64 0, .int .i64 1, .int .i64 1, .int .i64 0, .int .i64 1, .int .i64 1] 33) = w6 at *
  generalize w5.heap.size = p5 at *
  refine (batch_five L6.out V5.out P5.out 5).mono ?_
  rintro e w7 ⟨rfl, l, f⟩
  have L7 := hid l
  have F7 : Hid (Fr (fun _ => False) w w7) := F6.out.then f (fun i hi c => by have := GE.out i c; omega)
  have TA' := hid (TA.out.fr f PA.out)
  have V5' := hid (V5.out.fr f P5.out)
  clear L6 F6 TA V5 l f
  have TA := TA'
  have V5 := V5'
  clear TA' V5'
  go_wp2_with fail
  refine (lshow_any L7.out).mono ?_
  rintro e w8 ⟨rfl, f⟩
  have L8 := hid (L7.out.fr f (fun _ _ h => h))
  have F8 := hid (F7.out.trans f)
  have TA' := hid (TA.out.fr f (fun h => h))
  have V5' := hid (V5.out.fr f (fun h => h))
  clear f L7 F7 TA V5
  have TA := TA'
  clear TA'
  have V5 := V5'
  clear V5'
  go_wp2_with (first
    | (go_at_call 16; refine (all_five V5.out 5).mono ?_; rintro e w9 ⟨rfl, f⟩; have L9 := hid (L8.out.fr f (fun _ _ h => h)); have F9 := hid (F8.out.trans f); have TA' := hid (TA.out.fr f (fun h => h)); clear L8 F8 TA V5 f)
    | fail)
  have TA := TA'
  clear TA'
  have TB : Hid (Two (w9.alloc (.cells #[.int .i64 0, .int .i64 2, .int .i64 95, .int .i64 1, .int .i64 2, .int .i64 98] 33)) w9.heap.size f2a f2b) := Two.new w9 f2a f2b _
  have PB : Hid (¬ SL b w9.heap.size) := fun c => by have := L9.out.lt _ c; omega
  have NAB : Hid (pa ≠ w9.heap.size) := Nat.ne_of_lt TA.out.a0.lt
  have GPB : Hid (w.heap.size ≤ w9.heap.size) := F9.out.size
  have L10 := hid (L9.out.fr ((Fr.refl (fun _ => False) w9).alloc (.cells #[.int .i64 0, .int .i64 2, .int .i64 95, .int .i64 1, .int .i64 2, .int .i64 98] 33)) (fun _ _ h => h))
  have F10 := hid (F9.out.alloc (.cells #[.int .i64 0, .int .i64 2, .int .i64 95, .int .i64 1, .int .i64 2, .int .i64 98] 33))
  have TA' := hid (TA.out.fr ((Fr.refl (fun _ => False) w9).alloc (.cells #[.int .i64 0, .int .i64 2, .int .i64 95, .int .i64 1, .int .i64 2, .int .i64 98] 33)) (fun h => h))
  clear L9 F9 TA
  have TA := TA'
  clear TA'
  generalize w9.alloc (.cells #[.int .i64 0, .int .i64 2, .int .i64 95, .int .i64 1, .int .i64 2, .int .i64 98] 33) = w10 at *
  generalize w9.heap.size = pb at *
  refine (batch_two L10.out TB.out PB.out 2 (s' := fS2) fN2 fE2 rfl).mono ?_
  rintro e w11 ⟨rfl, l, tw, f⟩
  have L11 := hid l
  have F11 : Hid (Fr (fun _ => False) w w11) := F10.out.then f (fun i hi c => by have := GE.out i c; omega)
  have TB' := hid tw
  have TA' := hid (TA.out.fr f PA.out)
  clear TB l tw f TA L10 F10
  have TB := TB'
  clear TB'
  have TA := TA'
  clear TA'
  have tb0 := TB.out.a0.c
  have tb1 := TB.out.a1.c
  have tb2 := TB.out.a2.c
  have tb3 := TB.out.a3.c
  have tb4 := TB.out.a4.c
  have tb5 := TB.out.a5.c
  simp only [f1a, f1b, f2a, f2b, fx] at tb0 tb1 tb2 tb3 tb4 tb5
  go_wp2_with fail
  clear tb0 tb1 tb2 tb3 tb4 tb5
  refine (lshow_any L11.out).mono ?_
  rintro e w12 ⟨rfl, f⟩
  have L12 := hid (L11.out.fr f (fun _ _ h => h))
  have F12 := hid (F11.out.trans f)
  have TA' := hid (TA.out.fr f (fun h => h))
  have TB' := hid (TB.out.fr f (fun h => h))
  clear f L11 F11 TA TB
  have TA := TA'
  clear TA'
  have TB := TB'
  clear TB'
  have tb0 := TB.out.a0.c
  have tb1 := TB.out.a1.c
  have tb2 := TB.out.a2.c
  have tb3 := TB.out.a3.c
  have tb4 := TB.out.a4.c
  have tb5 := TB.out.a5.c
  have tbx0 := TB.out.a0.f
  have tbx1 := TB.out.a1.f
  have tbx2 := TB.out.a2.f
  have tbx3 := TB.out.a3.f
  have tbx4 := TB.out.a4.f
  have tbx5 := TB.out.a5.f
  simp only [f1a, f1b, f2a, f2b, fx] at tb0 tb1 tb2 tb3 tb4 tb5
  have ta0 := TA.out.a0.c
  have ta1 := TA.out.a1.c
  have ta2 := TA.out.a2.c
  have ta3 := TA.out.a3.c
  have ta4 := TA.out.a4.c
  have ta5 := TA.out.a5.c
  have tax0 := TA.out.a0.f
  have tax1 := TA.out.a1.f
  have tax2 := TA.out.a2.f
  have tax3 := TA.out.a3.f
  have tax4 := TA.out.a4.f
  have tax5 := TA.out.a5.f
  simp only [f1a, f1b, f2a, f2b, fx] at ta0 ta1 ta2 ta3 ta4 ta5
  have nab := NAB.out
  go_wp2_with fail
  clear tb0 tb1 tb2 tb3 tb4 tb5 tbx0 tbx1 tbx2 tbx3 tbx4 tbx5
  clear ta0 ta1 ta2 ta3 ta4 ta5 tax0 tax1 tax2 tax3 tax4 tax5
  have fz : Fr (fun i => i = pa ∨ i = pb) w12 ((((((w12.setCell ⟨pb, 0, none⟩ (.int .i64 3)).setCell ⟨pb, 1, none⟩ (.int .i64 3)).setCell ⟨pb, 2, none⟩ (.int .i64 (-1))).setCell ⟨pa, 3, none⟩ (.int .i64 3)).setCell ⟨pa, 4, none⟩ (.int .i64 3)).setCell ⟨pa, 5, none⟩ (.int .i64 (-1))) := ((((((Fr.refl (fun i => i = pa ∨ i = pb) w12).setCell (p := ⟨pb, 0, none⟩) (fun _ => .inr rfl) _).setCell (p := ⟨pb, 1, none⟩) (fun _ => .inr rfl) _).setCell (p := ⟨pb, 2, none⟩) (fun _ => .inr rfl) _).setCell (p := ⟨pa, 3, none⟩) (fun _ => .inl rfl) _).setCell (p := ⟨pa, 4, none⟩) (fun _ => .inl rfl) _).setCell (p := ⟨pa, 5, none⟩) (fun _ => .inl rfl) _
  have L13 := hid (L12.out.fr fz (fun i hi c => by rcases c with rfl | rfl; exact PA.out hi; exact PB.out hi))
  have F13 : Hid (Fr (fun _ => False) w ((((((w12.setCell ⟨pb, 0, none⟩ (.int .i64 3)).setCell ⟨pb, 1, none⟩ (.int .i64 3)).setCell ⟨pb, 2, none⟩ (.int .i64 (-1))).setCell ⟨pa, 3, none⟩ (.int .i64 3)).setCell ⟨pa, 4, none⟩ (.int .i64 3)).setCell ⟨pa, 5, none⟩ (.int .i64 (-1)))) := (((((F12.out.setN GPB.out _ _).setN GPB.out _ _).setN GPB.out _ _).setN GPA.out _ _).setN GPA.out _ _).setN GPA.out _ _
  have TB' : Hid (Two ((((((w12.setCell ⟨pb, 0, none⟩ (.int .i64 3)).setCell ⟨pb, 1, none⟩ (.int .i64 3)).setCell ⟨pb, 2, none⟩ (.int .i64 (-1))).setCell ⟨pa, 3, none⟩ (.int .i64 3)).setCell ⟨pa, 4, none⟩ (.int .i64 3)).setCell ⟨pa, 5, none⟩ (.int .i64 (-1))) pb fx f2b) := by
    have x := TB.out
    have g : ∀ {W : World} {o : Nat} {v : Value}, At W pb o v → At (((W.setCell ⟨pa, 3, none⟩ (.int .i64 3)).setCell ⟨pa, 4, none⟩ (.int .i64 3)).setCell ⟨pa, 5, none⟩ (.int .i64 (-1))) pb o v := fun h => ((h.other (fun e _ => nab e) _).other (fun e _ => nab e) _).other (fun e _ => nab e) _
    exact ⟨g (((x.a0.same _).other (by omega) _).other (by omega) _), g (((x.a1.other (by omega) _).same _).other (by omega) _), g (((x.a2.other (by omega) _).other (by omega) _).same _), g (((x.a3.other (by omega) _).other (by omega) _).other (by omega) _), g (((x.a4.other (by omega) _).other (by omega) _).other (by omega) _), g (((x.a5.other (by omega) _).other (by omega) _).other (by omega) _)⟩
  have TA' : Hid (Two ((((((w12.setCell ⟨pb, 0, none⟩ (.int .i64 3)).setCell ⟨pb, 1, none⟩ (.int .i64 3)).setCell ⟨pb, 2, none⟩ (.int .i64 (-1))).setCell ⟨pa, 3, none⟩ (.int .i64 3)).setCell ⟨pa, 4, none⟩ (.int .i64 3)).setCell ⟨pa, 5, none⟩ (.int .i64 (-1))) pa f1a fx) := by
    have x := TA.out
    have g : ∀ {o : Nat} {v : Value}, At w12 pa o v → At (((w12.setCell ⟨pb, 0, none⟩ (.int .i64 3)).setCell ⟨pb, 1, none⟩ (.int .i64 3)).setCell ⟨pb, 2, none⟩ (.int .i64 (-1))) pa o v := fun h => ((h.other (fun e _ => nab e.symm) _).other (fun e _ => nab e.symm) _).other (fun e _ => nab e.symm) _
    exact ⟨(((g x.a0).other (by omega) _).other (by omega) _).other (by omega) _, (((g x.a1).other (by omega) _).other (by omega) _).other (by omega) _, (((g x.a2).other (by omega) _).other (by omega) _).other (by omega) _, (((g x.a3).same _).other (by omega) _).other (by omega) _, (((g x.a4).other (by omega) _).same _).other (by omega) _, (((g x.a5).other (by omega) _).other (by omega) _).same _⟩
  clear fz TA TB L12 F12
  have TA := TA'
  have TB := TB'
  clear TA' TB'
  generalize ((((((w12.setCell ⟨pb, 0, none⟩ (.int .i64 3)).setCell ⟨pb, 1, none⟩ (.int .i64 3)).setCell ⟨pb, 2, none⟩ (.int .i64 (-1))).setCell ⟨pa, 3, none⟩ (.int .i64 3)).setCell ⟨pa, 4, none⟩ (.int .i64 3)).setCell ⟨pa, 5, none⟩ (.int .i64 (-1))) = w13 at *
  refine (lshow_any L13.out).mono ?_
  rintro e w14 ⟨rfl, f⟩
  have L14 := hid (L13.out.fr f (fun _ _ h => h))
  have F14 := hid (F13.out.trans f)
  have TA' := hid (TA.out.fr f (fun h => h))
  have TB' := hid (TB.out.fr f (fun h => h))
  clear f L13 F13 TA TB
  have TA := TA'
  clear TA'
  have TB := TB'
  clear TB'
  go_wp2_with fail
  refine (audit_any L14.out).mono ?_
  rintro e w15 ⟨rfl, hw⟩
  obtain rfl := hw.symm
  go_wp2_with fail
  refine (batch_two L14.out TB.out PB.out 2 (s' := fS3) fN3 fE3 rfl).mono ?_
  rintro e w15 ⟨rfl, l, tw, f⟩
  have L15 := hid l
  have F15 : Hid (Fr (fun _ => False) w w15) := F14.out.then f (fun i hi c => by have := GE.out i c; omega)
  have TB' := hid tw
  have TA' := hid (TA.out.fr f PA.out)
  clear TB l tw f TA L14 F14
  have TB := TB'
  clear TB'
  have TA := TA'
  clear TA'
  have tb0 := TB.out.a0.c
  have tb1 := TB.out.a1.c
  have tb2 := TB.out.a2.c
  have tb3 := TB.out.a3.c
  have tb4 := TB.out.a4.c
  have tb5 := TB.out.a5.c
  simp only [f1a, f1b, f2a, f2b, fx] at tb0 tb1 tb2 tb3 tb4 tb5
  go_wp2_with fail
  clear tb0 tb1 tb2 tb3 tb4 tb5
  refine (batch_two L15.out TA.out PA.out 2 (s' := fS4) fN4 fE4 rfl).mono ?_
  rintro e w16 ⟨rfl, l, tw, f⟩
  have L16 := hid l
  have F16 : Hid (Fr (fun _ => False) w w16) := F15.out.then f (fun i hi c => by have := GE.out i c; omega)
  have TA' := hid tw
  clear TA l tw f  L15 F15
  have TA := TA'
  clear TA'
  have ta0 := TA.out.a0.c
  have ta1 := TA.out.a1.c
  have ta2 := TA.out.a2.c
  have ta3 := TA.out.a3.c
  have ta4 := TA.out.a4.c
  have ta5 := TA.out.a5.c
  simp only [f1a, f1b, f2a, f2b, fx] at ta0 ta1 ta2 ta3 ta4 ta5
  go_wp2_with fail
  clear ta0 ta1 ta2 ta3 ta4 ta5
  refine (lshow_any L16.out).mono ?_
  rintro e w17 ⟨rfl, f⟩
  have L17 := hid (L16.out.fr f (fun _ _ h => h))
  have F17 := hid (F16.out.trans f)
  clear f L16 F16 
  obtain ⟨tl, htl, hll⟩ := fShow
  have hsh : (showD fS4 = showD fS4) := rfl
  rw [show L.bs (showD fS4) = L.bs ([98, 97, 108, 61, 57, 53, 44, 57, 56, 44, 49, 48, 55, 44, 49, 48, 48, 44, 32, 117, 110, 100, 111, 110, 101, 61, 50, 32, 124, 32] ++ tl) from htl]
  have hcut : ∀ W, (Instr.slice 9 (.string (L.bs ([98, 97, 108, 61, 57, 53, 44, 57, 56, 44, 49, 48, 55, 44, 49, 48, 48, 44, 32, 117, 110, 100, 111, 110, 101, 61, 50, 32, 124, 32] ++ tl))) none (some (.int .i64 30)) none).run Try.prog W = .ok (.string ⟨#[98, 97, 108, 61, 57, 53, 44, 57, 56, 44, 49, 48, 55, 44, 49, 48, 48, 44, 32, 117, 110, 100, 111, 110, 101, 61, 50, 32, 124, 32]⟩) W := by
    intro W
    rw [run_slice_string_h W 9 _ Try.underlying9 .i64 30 (by omega) (by rw [Lbs_size]; simp; omega)]
    congr 2
    apply ByteArray.ext
    simp [L.bs]
  have hsz : (L.bs ([98, 97, 108, 61, 57, 53, 44, 57, 56, 44, 49, 48, 55, 44, 49, 48, 48, 44, 32, 117, 110, 100, 111, 110, 101, 61, 50, 32, 124, 32] ++ tl)).size = 30 + tl.length := by rw [Lbs_size]; simp; omega
  generalize L.bs ([98, 97, 108, 61, 57, 53, 44, 57, 56, 44, 49, 48, 55, 44, 49, 48, 48, 44, 32, 117, 110, 100, 111, 110, 101, 61, 50, 32, 124, 32] ++ tl) = sh at *
  clear htl hsh
  go_wp2_with fail
  refine (far_any L17.out (k := 256) (by decide)).mono ?_
  rintro e w18 ⟨rfl, l, f⟩
  have L18 := hid l
  have F18 : Hid (Fr (fun _ => False) w w18) := F17.out.then f (fun i hi c => by have := GE.out i c; omega)
  clear l f L17 F17
  go_wp2_with fail
  refine (far_any L18.out (k := 4611686018427387904) (by decide)).mono ?_
  rintro e w19 ⟨rfl, l, f⟩
  have L19 := hid l
  have F19 : Hid (Fr (fun _ => False) w w19) := F18.out.then f (fun i hi c => by have := GE.out i c; omega)
  clear l f L18 F18
  go_wp2_with fail
  refine (far_any L19.out (k := (-9223372036854775808)) (by decide)).mono ?_
  rintro e w20 ⟨rfl, l, f⟩
  have L20 := hid l
  have F20 : Hid (Fr (fun _ => False) w w20) := F19.out.then f (fun i hi c => by have := GE.out i c; omega)
  clear l f L19 F19
  go_wp2_with fail
  go_loop [15] (fun i => ∃ k : Nat, k ≤ 99 ∧ i = .int .i64 k) (fun i => 99 - (intOf i).toNat)
  case atStart => exact ⟨0, by omega, rfl⟩
  case round =>
    obtain ⟨k, hk, rfl⟩ := hrel
    have hk0 : (0 : Int) ≤ (k : Int) := by omega
    by_cases hlt : k < 99
    · have hk9 : (k : Int) < 99 := by omega
      have HB : Hid ((bump k : Int) = (k : Int) + 1) := by unfold Hid bump; rw [if_neg (by omega)]; rfl
      go_wp2_with (go_at_call 19; refine (bump_any k _).mono ?_; rintro e w2 ⟨rfl, hw2⟩; obtain rfl := hw2.symm; rw [HB.out])
      exact ⟨⟨k + 1, by omega, by go_num⟩, by simp [intOf]; omega⟩
    · have hk9 : ¬ (k : Int) < 99 := by omega
      have HB : Hid ((bump 99 : Int) = 99) := rfl
      go_wp2_with fail
      refine (bump_any 99 _).mono ?_
      rintro e w2 ⟨rfl, hw2⟩
      obtain rfl := hw2.symm
      rw [HB.out]
      go_wp2_with fail
      go_ret
      exact ⟨rfl, F20.out⟩

end Go.Proofs.Qxb6500453a
