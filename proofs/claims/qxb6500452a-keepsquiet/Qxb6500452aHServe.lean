/- The model gate: serve whole, and Serve. -/
import Derived.Test.Qxb6500452aHSrvA
import Derived.Test.Qxb6500452aHSrvB
import Derived.Test.Qxb6500452aHSrvN
import Derived.Test.Qxb6500452aHSrvS
import Derived.Test.Qxb6500452aHSrvT
import Derived.Test.Qxb6500452aHSrvX
namespace Go.Proofs.Qxb6500452a
open Go Go.RowKit
set_option maxRecDepth 100000
set_option maxHeartbeats 1600000
set_option linter.unusedSimpArgs false
set_option linter.unusedVariables false

theorem atA_zero : atA 0 = ⟨#[64, 48]⟩ := by
  unfold atA
  have : Ia.itoa ((0 : Nat) : Int) = [48] := by decide
  rw [this]
  rfl
theorem msrv_long {w : World} {Q X M : Nat} {s : Led} {req : ByteArray} (h : ML w X M s) (hL : 20 < req.size) :
    Calls Try.prog 94 #[.pointer (some ⟨Q, 0, none⟩), .string req] w fun e w' => PostS s req X M w e w' := by
  have HS : Hid (srv s req = (⟨#[]⟩, 1, s)) := by unfold Hid srv; rw [if_pos hL]
  have H := hid h
  have hI : (20 : Int) < (req.size : Int) := by omega
  clear h hL
  go_enter Try.func94, Try.ntmps94
  go_wp2_with fail
  go_ret2
  unfold PostS
  rw [HS.out]
  exact ⟨rfl, H.out, Fr.refl _ _⟩
theorem msrv_none {w : World} {Q X M : Nat} {s : Led} {req : ByteArray} (h : ML w X M s) (hz : ¬ 0 < req.size) :
    Calls Try.prog 94 #[.pointer (some ⟨Q, 0, none⟩), .string req] w fun e w' => PostS s req X M w e w' := by
  have HS : Hid (srv s req = (⟨#[64, 48]⟩, 8, s)) := by unfold Hid; rw [srv_err (by omega) (decP_none hz), atA_zero]
  have H := hid h
  have hI : ¬ ((20 : Int) < (req.size : Int)) := by omega
  have hI0 : (req.size : Int) = 0 := by omega
  clear h hz
  go_enter Try.func94, Try.ntmps94
  go_wp2_with fail
  go_ret2
  unfold PostS
  rw [HS.out]
  exact ⟨rfl, H.out, Fr.refl _ _⟩
theorem u8_ne {a : UInt8} {n : Nat} {m : Int} (h : a ≠ UInt8.ofNat n) (hn : n < 256) (hm : m = (n : Int)) : ((a.toNat : Int) == m) = false := by
  rw [hm]
  refine beq_eq_false_iff_ne.2 fun c => h ?_
  have : a.toNat = n := by omega
  rw [← this]
  simp
theorem msrv_other {w : World} {Q X M : Nat} {s : Led} {req : ByteArray} (h : ML w X M s) (hz : 0 < req.size) (h20 : req.size ≤ 20) (h1 : byU req 0 ≠ 65) (h2 : byU req 0 ≠ 66) (h3 : byU req 0 ≠ 78) (h4 : byU req 0 ≠ 83) (h5 : byU req 0 ≠ 84) (h6 : byU req 0 ≠ 88) :
    Calls Try.prog 94 #[.pointer (some ⟨Q, 0, none⟩), .string req] w fun e w' => PostS s req X M w e w' := by
  have HS : Hid (srv s req = (⟨#[64, 48]⟩, 8, s)) := by unfold Hid; rw [srv_err h20 (decP_other hz h1 h2 h3 h4 h5 h6), atA_zero]
  have H := hid h
  have hb := byU_get hz
  have n1 := u8_ne (n := 65) (m := 65) h1 (by omega) rfl
  have n2 := u8_ne (n := 66) (m := 66) h2 (by omega) rfl
  have n3 := u8_ne (n := 78) (m := 78) h3 (by omega) rfl
  have n4 := u8_ne (n := 83) (m := 83) h4 (by omega) rfl
  have n5 := u8_ne (n := 84) (m := 84) h5 (by omega) rfl
  have n6 := u8_ne (n := 88) (m := 88) h6 (by omega) rfl
  have hzI : ¬ ((req.size : Int) = 0) := by omega
  have h20I : ¬ (20 < (req.size : Int)) := by omega
  clear h h1 h2 h3 h4 h5 h6
  generalize byU req 0 = b0 at *
  go_enter Try.func94, Try.ntmps94
  go_wp2_with fail
  go_ret2
  unfold PostS
  rw [HS.out]
  have ff := ((Fr.refl (fun _ => False) w).alloc (.cells #[.string req, .int .i64 1, .int .i64 (-1)] 139)).alloc (.cells #[.int .i64 0, .int .i64 0, .int .i64 0] 56)
  exact ⟨rfl, H.out.fr ff (fun _ _ h => h), ff.mono (fun _ _ h => h.elim)⟩
theorem msrv_any {w : World} {Q X M : Nat} {s : Led} (h : ML w X M s) (g0 : At w Q 0 (.pointer (some ⟨X, 0, none⟩))) (hQ : ¬ SM X M Q) (req : ByteArray) :
    Calls Try.prog 94 #[.pointer (some ⟨Q, 0, none⟩), .string req] w fun e w' => PostS s req X M w e w' := by
  by_cases hL : 20 < req.size
  · exact msrv_long h hL
  by_cases hz : 0 < req.size
  · have h20 : req.size ≤ 20 := by omega
    by_cases h1 : byU req 0 = 65
    · exact msrv_A h g0 hQ hz h20 h1
    by_cases h2 : byU req 0 = 66
    · exact msrv_B h g0 hQ hz h20 h2
    by_cases h3 : byU req 0 = 78
    · exact msrv_N h g0 hQ hz h20 h3
    by_cases h4 : byU req 0 = 83
    · exact msrv_S h g0 hQ hz h20 h4
    by_cases h5 : byU req 0 = 84
    · exact msrv_T h g0 hQ hz h20 h5
    by_cases h6 : byU req 0 = 88
    · exact msrv_X h g0 hQ hz h20 h6
    exact msrv_other h hz h20 h1 h2 h3 h4 h5 h6
  · exact msrv_none h hz

theorem mserve_any {w : World} {Q X M : Nat} {s : Led} {c : Cts} (h : GM w Q X M s c) (req : ByteArray) :
    Calls Try.prog 68 #[.pointer (some ⟨Q, 0, none⟩), .string req] w fun e w' => e = .returned (.tuple #[.string (srv s req).1, .int .i64 (srv s req).2.1]) ∧ GM w' Q X M (srv s req).2.2 (cntC c (srv s req).2.1) ∧ Fr (SQ X M Q) w w' := by
  have H := hid h
  have HV := hid (msrv_any h.m h.g0 h.ng req)
  clear h
  unfold PostS at HV
  generalize (srv s req).2.2 = s' at *
  generalize (srv s req).2.1 = e at *
  generalize (srv s req).1 = ans at *
  by_cases h0 : e = 0
  · subst h0
    have hC : cntC c 0 = ⟨bump c.ok, c.bad, c.err, c.inn⟩ := by simp [cntC]
    rw [hC]
    clear hC
    go_enter Try.func68, Try.ntmps68
    go_wp2_with fail
    refine HV.out.mono ?_
    rintro x w1 ⟨rfl, ml, f1⟩
    have G1 := hid (H.out.led ml f1)
    have F1 := hid f1
    clear ml f1 H HV
    obtain ⟨l1, l2, l3, l4⟩ := G1.out.cl
    have c1 := G1.out.g1.c
    have x1 := G1.out.g1.f
    go_wp2_with (first | (go_at_call 51; refine (bump_any _ _).mono ?_; rintro x y ⟨rfl, hy⟩; obtain rfl := hy.symm) | fail)
    go_ret2
    have hF : ∀ o u, Fr (fun i => i = Q) w1 (w1.setCell ⟨Q, o, none⟩ u) := fun o u => (Fr.refl (fun i => i = Q) w1).setCell (p := ⟨Q, o, none⟩) (fun _ => rfl) u
    exact ⟨rfl, ⟨G1.out.m.fr (hF _ _) (fun i c e => G1.out.ng (e ▸ c)), G1.out.g0.other (by omega) _, G1.out.g1.same _, G1.out.g2.other (by omega) _, G1.out.g3.other (by omega) _, G1.out.g4.other (by omega) _, G1.out.ng, bump99 l1, l2, l3, l4⟩, (F1.out.mono (fun i _ h => .inl h)).trans ((hF _ _).mono (fun i _ h => .inr h))⟩
  have b0 : (e == 0) = false := by simp [h0]
  by_cases h1 : e = 1
  · subst h1
    have hC : cntC c 1 = ⟨c.ok, bump c.bad, c.err, c.inn⟩ := by simp [cntC]
    rw [hC]
    clear hC b0
    go_enter Try.func68, Try.ntmps68
    go_wp2_with fail
    refine HV.out.mono ?_
    rintro x w1 ⟨rfl, ml, f1⟩
    have G1 := hid (H.out.led ml f1)
    have F1 := hid f1
    clear ml f1 H HV
    obtain ⟨l1, l2, l3, l4⟩ := G1.out.cl
    have c2 := G1.out.g2.c
    have x2 := G1.out.g2.f
    go_wp2_with (first | (go_at_call 51; refine (bump_any _ _).mono ?_; rintro x y ⟨rfl, hy⟩; obtain rfl := hy.symm) | fail)
    go_ret2
    have hF : ∀ o u, Fr (fun i => i = Q) w1 (w1.setCell ⟨Q, o, none⟩ u) := fun o u => (Fr.refl (fun i => i = Q) w1).setCell (p := ⟨Q, o, none⟩) (fun _ => rfl) u
    exact ⟨rfl, ⟨G1.out.m.fr (hF _ _) (fun i c e => G1.out.ng (e ▸ c)), G1.out.g0.other (by omega) _, G1.out.g1.other (by omega) _, G1.out.g2.same _, G1.out.g3.other (by omega) _, G1.out.g4.other (by omega) _, G1.out.ng, l1, bump99 l2, l3, l4⟩, (F1.out.mono (fun i _ h => .inl h)).trans ((hF _ _).mono (fun i _ h => .inr h))⟩
  have b1 : (e == 1) = false := by simp [h1]
  by_cases h8 : e = 8
  · subst h8
    have hC : cntC c 8 = ⟨c.ok, bump c.bad, c.err, c.inn⟩ := by simp [cntC]
    rw [hC]
    clear hC b0 b1
    go_enter Try.func68, Try.ntmps68
    go_wp2_with fail
    refine HV.out.mono ?_
    rintro x w1 ⟨rfl, ml, f1⟩
    have G1 := hid (H.out.led ml f1)
    have F1 := hid f1
    clear ml f1 H HV
    obtain ⟨l1, l2, l3, l4⟩ := G1.out.cl
    have c2 := G1.out.g2.c
    have x2 := G1.out.g2.f
    go_wp2_with (first | (go_at_call 51; refine (bump_any _ _).mono ?_; rintro x y ⟨rfl, hy⟩; obtain rfl := hy.symm) | fail)
    go_ret2
    have hF : ∀ o u, Fr (fun i => i = Q) w1 (w1.setCell ⟨Q, o, none⟩ u) := fun o u => (Fr.refl (fun i => i = Q) w1).setCell (p := ⟨Q, o, none⟩) (fun _ => rfl) u
    exact ⟨rfl, ⟨G1.out.m.fr (hF _ _) (fun i c e => G1.out.ng (e ▸ c)), G1.out.g0.other (by omega) _, G1.out.g1.other (by omega) _, G1.out.g2.same _, G1.out.g3.other (by omega) _, G1.out.g4.other (by omega) _, G1.out.ng, l1, bump99 l2, l3, l4⟩, (F1.out.mono (fun i _ h => .inl h)).trans ((hF _ _).mono (fun i _ h => .inr h))⟩
  have b8 : (e == 8) = false := by simp [h8]
  by_cases h9 : e = 9
  · subst h9
    have hC : cntC c 9 = ⟨c.ok, c.bad, c.err, bump c.inn⟩ := by simp [cntC]
    rw [hC]
    clear hC b0 b1 b8
    go_enter Try.func68, Try.ntmps68
    go_wp2_with fail
    refine HV.out.mono ?_
    rintro x w1 ⟨rfl, ml, f1⟩
    have G1 := hid (H.out.led ml f1)
    have F1 := hid f1
    clear ml f1 H HV
    obtain ⟨l1, l2, l3, l4⟩ := G1.out.cl
    have c4 := G1.out.g4.c
    have x4 := G1.out.g4.f
    go_wp2_with (first | (go_at_call 51; refine (bump_any _ _).mono ?_; rintro x y ⟨rfl, hy⟩; obtain rfl := hy.symm) | fail)
    go_ret2
    have hF : ∀ o u, Fr (fun i => i = Q) w1 (w1.setCell ⟨Q, o, none⟩ u) := fun o u => (Fr.refl (fun i => i = Q) w1).setCell (p := ⟨Q, o, none⟩) (fun _ => rfl) u
    exact ⟨rfl, ⟨G1.out.m.fr (hF _ _) (fun i c e => G1.out.ng (e ▸ c)), G1.out.g0.other (by omega) _, G1.out.g1.other (by omega) _, G1.out.g2.other (by omega) _, G1.out.g3.other (by omega) _, G1.out.g4.same _, G1.out.ng, l1, l2, l3, bump99 l4⟩, (F1.out.mono (fun i _ h => .inl h)).trans ((hF _ _).mono (fun i _ h => .inr h))⟩
  have b9 : (e == 9) = false := by simp [h9]
  have hC : cntC c e = ⟨c.ok, c.bad, bump c.err, c.inn⟩ := by simp [cntC, h0, h1, h8, h9]
  rw [hC]
  clear hC h0 h1 h8 h9
  go_enter Try.func68, Try.ntmps68
  go_wp2_with fail
  refine HV.out.mono ?_
  rintro x w1 ⟨rfl, ml, f1⟩
  have G1 := hid (H.out.led ml f1)
  have F1 := hid f1
  clear ml f1 H HV
  obtain ⟨l1, l2, l3, l4⟩ := G1.out.cl
  have c3 := G1.out.g3.c
  have x3 := G1.out.g3.f
  go_wp2_with (first | (go_at_call 51; refine (bump_any _ _).mono ?_; rintro x y ⟨rfl, hy⟩; obtain rfl := hy.symm) | fail)
  go_ret2
  have hF : ∀ o u, Fr (fun i => i = Q) w1 (w1.setCell ⟨Q, o, none⟩ u) := fun o u => (Fr.refl (fun i => i = Q) w1).setCell (p := ⟨Q, o, none⟩) (fun _ => rfl) u
  exact ⟨rfl, ⟨G1.out.m.fr (hF _ _) (fun i c e => G1.out.ng (e ▸ c)), G1.out.g0.other (by omega) _, G1.out.g1.other (by omega) _, G1.out.g2.other (by omega) _, G1.out.g3.same _, G1.out.g4.other (by omega) _, G1.out.ng, l1, l2, bump99 l3, l4⟩, (F1.out.mono (fun i _ h => .inl h)).trans ((hF _ _).mono (fun i _ h => .inr h))⟩

end Go.Proofs.Qxb6500452a
