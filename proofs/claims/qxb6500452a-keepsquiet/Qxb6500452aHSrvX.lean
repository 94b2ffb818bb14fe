/- The model gate: serve: X. -/
import Derived.Test.Qxb6500452aHSrv0
namespace Go.Proofs.Qxb6500452a
open Go Go.RowKit
set_option maxRecDepth 100000
set_option maxHeartbeats 1600000
set_option linter.unusedSimpArgs false
set_option linter.unusedVariables false

theorem msrv_X {w : World} {Q X M : Nat} {s : Led} {req : ByteArray} (h : ML w X M s) (g0 : At w Q 0 (.pointer (some ⟨X, 0, none⟩))) (hQ : ¬ SM X M Q) (hz : 0 < req.size) (h20 : req.size ≤ 20) (hv : byU req 0 = 88) :
    Calls Try.prog 94 #[.pointer (some ⟨Q, 0, none⟩), .string req] w fun e w' => PostS s req X M w e w' := by
  have H := hid h
  have HLT := hid h.lt
  have hQl := g0.lt
  have G0 := hid g0
  have HV := hid hv
  have HZ := hid hz
  have hb := byU_get hz
  rw [hv] at hb
  have hzI : ¬ ((req.size : Int) = 0) := by omega
  have h20I : ¬ (20 < (req.size : Int)) := by omega
  have bd1 : (-1 : Int) ≤ 0 := by omega
  clear h g0 hv
  go_enter Try.func94, Try.ntmps94
  go_upto_region 9 with fail
  have FA := hid (((Fr.refl (fun _ => False) w).alloc (.cells #[.string req, .int .i64 1, .int .i64 (-1)] 139)).alloc (.cells #[.int .i64 0, .int .i64 0, .int .i64 0] 56))
  have S0 : Hid (SN ((w.alloc (.cells #[.string req, .int .i64 1, .int .i64 (-1)] 139)).alloc (.cells #[.int .i64 0, .int .i64 0, .int .i64 0] 56)) w.heap.size req 1 (-1)) := by
    have := fun q v (hv : (#[.string req, .int .i64 1, .int .i64 (-1)] : Array Value)[q]? = some v) => (At.new w #[.string req, .int .i64 1, .int .i64 (-1)] 139 hv).alloc (.cells #[.int .i64 0, .int .i64 0, .int .i64 0] 56)
    exact ⟨⟨this 0 _ rfl, this 1 _ rfl, h20, hz⟩, this 2 _ rfl⟩
  have K0 : Hid (∀ q v, (#[.int .i64 0, .int .i64 0, .int .i64 0] : Array Value)[q]? = some v → At ((w.alloc (.cells #[.string req, .int .i64 1, .int .i64 (-1)] 139)).alloc (.cells #[.int .i64 0, .int .i64 0, .int .i64 0] 56)) (w.alloc (.cells #[.string req, .int .i64 1, .int .i64 (-1)] 139)).heap.size q v) := fun q v hv => At.new (w.alloc (.cells #[.string req, .int .i64 1, .int .i64 (-1)] 139)) _ _ hv
  simp only [World.size_alloc] at K0
  have R0 := hid (H.out.fr FA.out (fun _ _ h => h))
  have GA := hid (G0.out.fr FA.out (fun h => h))
  have NC : Hid (¬ SM X M w.heap.size) := fun c => by have := HLT.out _ c; omega
  have NM : Hid (¬ SM X M (w.heap.size + 1)) := fun c => by have := HLT.out _ c; omega
  generalize (w.alloc (.cells #[.string req, .int .i64 1, .int .i64 (-1)] 139)).alloc (.cells #[.int .i64 0, .int .i64 0, .int .i64 0] 56) = w0 at *
  obtain ⟨C, hC⟩ : ∃ C, C = w.heap.size := ⟨_, rfl⟩
  rw [← hC] at S0 K0 NC NM ⊢
  obtain ⟨pM, hpM⟩ : ∃ pM, pM = C + 1 := ⟨_, rfl⟩
  rw [← hpM] at K0 NM ⊢
  have hMC : pM ≠ C := by omega
  have hQC : Q ≠ C := by omega
  have hQM : Q ≠ pM := by omega
  have HC : Hid (C = w.heap.size ∧ pM = C + 1) := ⟨hC, hpM⟩
  clear hC hpM H G0 hQl
  have c1 := S0.out.dc.c1.c
  have c2 := S0.out.c2.c
  have m0 := (K0.out 0 _ rfl).c
  have m1 := (K0.out 1 _ rfl).c
  have m2 := (K0.out 2 _ rfl).c
  have x0 := (K0.out 0 _ rfl).f
  have x1 := (K0.out 1 _ rfl).f
  have x2 := (K0.out 2 _ rfl).f
  have g := GA.out.c
  have HC0 : Hid (C < w0.heap.size) := by unfold Hid; have := S0.out.dc.lt; omega
  clear c1 c2 m0 m1 m2 x0 x1 x2 g
  go_upto_region 22 with fail
  go_loopw [9, 10] (fun v b wr => ∃ (n q : Nat) (a : Int) (l : List Mv), b = .int .i64 (n : Int) ∧ OwnM wr w0.heap.size v l ∧ SN wr C req q a ∧ Fr (fun i => i = C) w0 wr ∧ XS req n q a l) (fun _ b _ => 22 - (intOf b).toNat)
  case atStart => exact ⟨0, 1, -1, [], rfl, OwnM.nil _ _, S0.out, Fr.refl _ _, XS.start req⟩
  case round =>
    clear S0
    obtain ⟨n, q, a, l, rfl, oq, sq, fq, xs⟩ := hrel
    have OQ := hid oq
    have SQ := hid sq
    have FQ := hid fq
    clear oq sq fq
    generalize u9 = v at *
    rcases xs with ⟨rfl, hnq, h1, h2, h3, k, h4, h5⟩ | ⟨hn, hn21, hst, rs⟩
    · have HK : Hid (q ≤ 20 ∧ n ≤ q ∧ l.length = n ∧ movsP req (k + 1) q l = movsP req 21 1 [] ∧ 21 ≤ k + q) := ⟨h1, h2, h3, h4, h5⟩
      clear h1 h2 h3 h4 h5
      by_cases hn : n = 0
      · subst hn
        clear hnq
        go_upto_region 24 with fail
        go_upto_region 25 with (first | (go_at_call 98; refine (smoveU SQ.out).mono ?_; rintro e w1 ⟨m, p1, a1, rfl, sn, rs, f1⟩; simp only [Mv.val]) | fail)
        have S1 := hid sn
        have R1 := hid rs
        have O1 := hid (OQ.out.fr f1 (fun x hx e => by have := (OQ.out.lt hx).1; have := HC0.out; omega))
        have FA1 := hid ((Fr.refl (fun _ => False) w1).alloc (.cells #[.int .i64 m.f, .int .i64 m.t, .int .i64 m.a] 56))
        have AN : Hid (∀ x u, (#[.int .i64 m.f, .int .i64 m.t, .int .i64 m.a] : Array Value)[x]? = some u → At (w1.alloc (.cells #[.int .i64 m.f, .int .i64 m.t, .int .i64 m.a] 56)) w1.heap.size x u) := fun x u hu => At.new w1 _ _ hu
        have O2 := hid (O1.out.fr FA1.out (fun _ _ h => h))
        have S2 := hid (S1.out.fr FA1.out (fun h => h))
        have F2 := hid ((FQ.out.trans f1).alloc (.cells #[.int .i64 m.f, .int .i64 m.t, .int .i64 m.a] 56))
        have hpmC : w1.heap.size ≠ C := by have := S1.out.dc.lt; omega
        clear sn rs f1 S1 O1 FA1 SQ OQ FQ
        generalize w1.alloc (.cells #[.int .i64 m.f, .int .i64 m.t, .int .i64 m.a] 56) = w2 at *
        generalize w1.heap.size = pm at *
        go_upto_region 26 with (first | (go_at_call 99; refine (smustW S2.out R1.out).mono ?_; rintro e w3 ⟨p2, a2, rfl, sn, rs, f1⟩) | fail)
        have S3 := hid sn
        have R3 := hid rs
        have O3 := hid (O2.out.fr f1 (fun x hx e => by have := (O2.out.lt hx).1; have := HC0.out; omega))
        have F3 := hid (F2.out.trans f1)
        have m0 := ((AN.out 0 _ rfl).fr f1 hpmC).c
        have m1 := ((AN.out 1 _ rfl).fr f1 hpmC).c
        have m2 := ((AN.out 2 _ rfl).fr f1 hpmC).c
        have hb3 : w0.heap.size ≤ w3.heap.size := F3.out.size
        have hl2 : l.length ≤ 1000000 := by have := HK.out; omega
        clear sn rs f1 S2 O2 F2 R1 AN
        go_upto_region 23 with (first
          | (at_builtin; refine wp_appM rfl rfl (v := v) rfl (O3.out.fr ((Fr.refl (fun _ => False) _).alloc _) (fun _ _ h => h)) rfl (y := m) (At.new w3 #[.int .i64 m.f, .int .i64 m.t, .int .i64 m.a] _ rfl).c (At.new w3 #[.int .i64 m.f, .int .i64 m.t, .int .i64 m.a] _ rfl).c (At.new w3 #[.int .i64 m.f, .int .i64 m.t, .int .i64 m.a] _ rfl).c hl2 (by simp; omega) ?_; intro gg cp w4 ow4 f4 hg4 hl4; go_frame)
          | go_in)
        have FB := (Fr.refl (fun _ => False) w3).alloc (.cells #[.int .i64 m.f, .int .i64 m.t, .int .i64 m.a] 56)
        have nC : ¬ v.ownBlock = some C := fun e => by have := (O3.out.lt e).1; have := HC0.out; omega
        have S4 := hid ((S3.out.fr FB (fun h => h)).fr f4 nC)
        have F4 : Hid (Fr (fun i => i = C) w0 w4) := (F3.out.trans (FB.mono (fun _ _ h => h.elim))).then f4 (fun i hi e => by have := (O3.out.lt e).1; omega)
        have O4 := hid ow4
        clear m0 m1 m2 O3 F3 FB f4 ow4 hg4 hl4 nC S3
        have hnb : (0 : Int) ≤ (0 : Int) ∧ (0 : Int) ≤ 20 := by have := HK.out; omega
        go_wp2_with fail
        refine ⟨⟨0 + 1, p2, a2, l ++ [m], by go_num, by have := O4.out; rwa [HK.out.2.2.1] at this, S4.out, F4.out, XS.step h20 HK.out.1 HK.out.2.1 HK.out.2.2.1 HK.out.2.2.2.1 HK.out.2.2.2.2 R3.out⟩, by have := HK.out; simp [intOf] <;> omega⟩
      · have hqs : q < req.size := hnq.resolve_left hn
        have hqI : (q : Int) < (req.size : Int) := by omega
        have hnI : ¬ ((n : Int) = 0) := by omega
        have c1 := SQ.out.dc.c1.c
        have c2 := SQ.out.c2.c
        clear hnq hn
        go_upto_region 24 with fail
        clear c1 c2 hqI hnI
        go_upto_region 25 with (first | (go_at_call 98; refine (smoveU SQ.out).mono ?_; rintro e w1 ⟨m, p1, a1, rfl, sn, rs, f1⟩; simp only [Mv.val]) | fail)
        have S1 := hid sn
        have R1 := hid rs
        have O1 := hid (OQ.out.fr f1 (fun x hx e => by have := (OQ.out.lt hx).1; have := HC0.out; omega))
        have FA1 := hid ((Fr.refl (fun _ => False) w1).alloc (.cells #[.int .i64 m.f, .int .i64 m.t, .int .i64 m.a] 56))
        have AN : Hid (∀ x u, (#[.int .i64 m.f, .int .i64 m.t, .int .i64 m.a] : Array Value)[x]? = some u → At (w1.alloc (.cells #[.int .i64 m.f, .int .i64 m.t, .int .i64 m.a] 56)) w1.heap.size x u) := fun x u hu => At.new w1 _ _ hu
        have O2 := hid (O1.out.fr FA1.out (fun _ _ h => h))
        have S2 := hid (S1.out.fr FA1.out (fun h => h))
        have F2 := hid ((FQ.out.trans f1).alloc (.cells #[.int .i64 m.f, .int .i64 m.t, .int .i64 m.a] 56))
        have hpmC : w1.heap.size ≠ C := by have := S1.out.dc.lt; omega
        clear sn rs f1 S1 O1 FA1 SQ OQ FQ
        generalize w1.alloc (.cells #[.int .i64 m.f, .int .i64 m.t, .int .i64 m.a] 56) = w2 at *
        generalize w1.heap.size = pm at *
        go_upto_region 26 with (first | (go_at_call 99; refine (smustW S2.out R1.out).mono ?_; rintro e w3 ⟨p2, a2, rfl, sn, rs, f1⟩) | fail)
        have S3 := hid sn
        have R3 := hid rs
        have O3 := hid (O2.out.fr f1 (fun x hx e => by have := (O2.out.lt hx).1; have := HC0.out; omega))
        have F3 := hid (F2.out.trans f1)
        have m0 := ((AN.out 0 _ rfl).fr f1 hpmC).c
        have m1 := ((AN.out 1 _ rfl).fr f1 hpmC).c
        have m2 := ((AN.out 2 _ rfl).fr f1 hpmC).c
        have hb3 : w0.heap.size ≤ w3.heap.size := F3.out.size
        have hl2 : l.length ≤ 1000000 := by have := HK.out; omega
        clear sn rs f1 S2 O2 F2 R1 AN
        go_upto_region 23 with (first
          | (at_builtin; refine wp_appM rfl rfl (v := v) rfl (O3.out.fr ((Fr.refl (fun _ => False) _).alloc _) (fun _ _ h => h)) rfl (y := m) (At.new w3 #[.int .i64 m.f, .int .i64 m.t, .int .i64 m.a] _ rfl).c (At.new w3 #[.int .i64 m.f, .int .i64 m.t, .int .i64 m.a] _ rfl).c (At.new w3 #[.int .i64 m.f, .int .i64 m.t, .int .i64 m.a] _ rfl).c hl2 (by simp; omega) ?_; intro gg cp w4 ow4 f4 hg4 hl4; go_frame)
          | go_in)
        have FB := (Fr.refl (fun _ => False) w3).alloc (.cells #[.int .i64 m.f, .int .i64 m.t, .int .i64 m.a] 56)
        have nC : ¬ v.ownBlock = some C := fun e => by have := (O3.out.lt e).1; have := HC0.out; omega
        have S4 := hid ((S3.out.fr FB (fun h => h)).fr f4 nC)
        have F4 : Hid (Fr (fun i => i = C) w0 w4) := (F3.out.trans (FB.mono (fun _ _ h => h.elim))).then f4 (fun i hi e => by have := (O3.out.lt e).1; omega)
        have O4 := hid ow4
        clear m0 m1 m2 O3 F3 FB f4 ow4 hg4 hl4 nC S3
        have hnb : (0 : Int) ≤ (n : Int) ∧ (n : Int) ≤ 20 := by have := HK.out; omega
        go_wp2_with fail
        refine ⟨⟨n + 1, p2, a2, l ++ [m], by go_num, by have := O4.out; rwa [HK.out.2.2.1] at this, S4.out, F4.out, XS.step h20 HK.out.1 HK.out.2.1 HK.out.2.2.1 HK.out.2.2.2.1 HK.out.2.2.2.2 R3.out⟩, by have := HK.out; simp [intOf] <;> omega⟩
    · have RSD := hid rs
      have SNZ := SQ
      have FX := FQ
      have FZ : Hid (Fr (SM X M) w wr) := (FA.out.mono (fun _ _ h => h.elim)).then FX.out (fun i hi e => by have := HC.out; omega)
      have RZ := hid (R0.out.fr FX.out (fun i c e => NC.out (e ▸ c)))
      have GZ := hid (GA.out.fr FX.out hQC)
      have KZ := hid (fun q u hu => (K0.out q u hu).fr FX.out hMC)
      have HB : Hid (∀ i, SM X M i → i < w0.heap.size) := R0.out.lt
      clear rs FX R0 GA K0
      have hnI : ¬ ((n : Int) = 0) := by omega
      have HSE := scan_end (RSD.out.map (fun x => (⟨88, ⟨0, 0, 0⟩, x⟩ : Cmd))) (decP_X HZ.out HV.out)
      skip
      rcases HSE with ⟨q, hq, hd⟩ | ⟨ha, hp, hd⟩ | ⟨ha, hp, hd⟩
      · subst hq
        have HS : Hid (srv s req = (atA q, 8, s)) := srv_err h20 hd
        have hqL : q ≤ req.size := decP_le hd
        clear hd
        have hq0 : ¬ ((q : Int) < 0) := by omega
        have hq1 : (0 : Int) ≤ (q : Int) := by omega
        have c1 := SNZ.out.dc.c1.c
        have c2 := SNZ.out.c2.c
        have zz : (Ia.bs (Ia.itoa (q : Int))).size ≤ 21 := by rw [Ia.bs_size]; exact Ia.itoa_len _
        go_upto_region 30 with fail
        go_wp2_with fail
        refine (Ia.itoa_any (q : Int) _ (by omega) (by omega)).mono ?_
        rintro e w9 ⟨rfl, f9⟩
        go_wp2_with fail
        go_ret2
        unfold PostS
        rw [HS.out]
        exact ⟨rfl, RZ.out.fr f9 (fun _ _ h => h), FZ.out.trans (f9.mono (fun _ _ h => h.elim))⟩
      · exfalso
        rcases hst with ⟨y, h | ⟨_, h⟩⟩ <;> omega
      · subst ha
        have hpI : ¬ (((q : Nat) : Int) < (req.size : Int)) := by omega
        have c1 := SNZ.out.dc.c1.c
        have c2 := SNZ.out.c2.c
        have g := GZ.out.c
        have m0 := (KZ.out 0 _ rfl).c
        have m1 := (KZ.out 1 _ rfl).c
        have m2 := (KZ.out 2 _ rfl).c
        have HD := hid hd
        clear hd
        obtain ⟨xa, cap, rfl, mv, hx⟩ := OQ.out.mvs
        have MV := hid mv
        have HX : Hid (∀ B off, xa = some ⟨B, off, none⟩ → ¬ SM X M B) := fun B off e c => by have := hx B off e; have := HB.out _ c; omega
        clear mv hx m0 m1 m2
        go_upto_region 51 with fail
        go_wp2_with fail
        refine (mbatch_any RZ.out MV.out HX.out cap).mono ?_
        rintro e w1 ⟨rfl, r1, f1⟩
        have R1 := hid r1
        have F1 := hid (FZ.out.trans f1)
        clear r1 f1
        have HE : Hid (runP s ⟨88, ⟨0, 0, 0⟩, l⟩ = some (shA 88 (batN s l) (batE s l), batE s l) ∧ runS s ⟨88, ⟨0, 0, 0⟩, l⟩ = batS s l) := by simp [Hid, runP, runS]
        have hsm := bat_small s l
        by_cases hE : batE s l = 0
        · have hA : shA 88 (batN s l) (batE s l) = Ia.bs (Ia.itoa (batN s l)) := by simp [shA, hE]
          have HS : Hid (srv s req = (Ia.bs (Ia.itoa (batN s l)), batE s l, batS s l)) := by rw [← hA]; exact srv_some h20 HD.out HE.out.1 HE.out.2
          clear hA
          rw [hE] at HS ⊢
          clear hE HE
          go_wp2_with fail
          refine (Ia.itoa_any (batN s l) _ (by omega) (by omega)).mono ?_
          rintro e w9 ⟨rfl, f9⟩
          go_wp2_with fail
          go_ret2
          unfold PostS
          rw [HS.out]
          exact ⟨rfl, R1.out.fr f9 (fun _ _ h => h), F1.out.trans (f9.mono (fun _ _ h => h.elim))⟩
        · have hA : shA 88 (batN s l) (batE s l) = ⟨#[35]⟩ ++ Ia.bs (Ia.itoa (batN s l)) := by simp [shA, hE]
          have HS : Hid (srv s req = (⟨#[35]⟩ ++ Ia.bs (Ia.itoa (batN s l)), batE s l, batS s l)) := by rw [← hA]; exact srv_some h20 HD.out HE.out.1 HE.out.2
          clear hA HE
          have zz : (Ia.bs (Ia.itoa (batN s l))).size ≤ 21 := by rw [Ia.bs_size]; exact Ia.itoa_len _
          have heb : ((batE s l) != 0) = true := by simp [hE]
          clear hE
          go_wp2_with fail
          refine (Ia.itoa_any (batN s l) _ (by omega) (by omega)).mono ?_
          rintro e w9 ⟨rfl, f9⟩
          go_wp2_with fail
          go_ret2
          unfold PostS
          rw [HS.out]
          exact ⟨rfl, R1.out.fr f9 (fun _ _ h => h), F1.out.trans (f9.mono (fun _ _ h => h.elim))⟩


end Go.Proofs.Qxb6500452a
