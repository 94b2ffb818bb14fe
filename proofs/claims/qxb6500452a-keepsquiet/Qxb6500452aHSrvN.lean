/- The model gate: serve: N. -/
import Derived.Test.Qxb6500452aHSrv0
namespace Go.Proofs.Qxb6500452a
open Go Go.RowKit
set_option maxRecDepth 100000
set_option maxHeartbeats 1600000
set_option linter.unusedSimpArgs false
set_option linter.unusedVariables false

theorem msrv_N {w : World} {Q X M : Nat} {s : Led} {req : ByteArray} (h : ML w X M s) (g0 : At w Q 0 (.pointer (some ⟨X, 0, none⟩))) (hQ : ¬ SM X M Q) (hz : 0 < req.size) (h20 : req.size ≤ 20) (hv : byU req 0 = 78) :
    Calls Try.prog 94 #[.pointer (some ⟨Q, 0, none⟩), .string req] w fun e w' => PostS s req X M w e w' := by
  have H := hid h
  have HLT := hid h.lt
  have hQl := g0.lt
  have G0 := hid g0
  have HV := hid hv
  have HZ := hid hz
  have hb := byU_get hz
  rw [hv] at hb
  have hzI : ¬ ((req.size : Int) = 0) := by omega
  have h20I : ¬ (20 < (req.size : Int)) := by omega
  have bd1 : (-1 : Int) ≤ 0 := by omega
  clear h g0 hv
  go_enter Try.func94, Try.ntmps94
  go_upto_region 9 with fail
  have FA := hid (((Fr.refl (fun _ => False) w).alloc (.cells #[.string req, .int .i64 1, .int .i64 (-1)] 139)).alloc (.cells #[.int .i64 0, .int .i64 0, .int .i64 0] 56))
  have S0 : Hid (SN ((w.alloc (.cells #[.string req, .int .i64 1, .int .i64 (-1)] 139)).alloc (.cells #[.int .i64 0, .int .i64 0, .int .i64 0] 56)) w.heap.size req 1 (-1)) := by
    have := fun q v (hv : (#[.string req, .int .i64 1, .int .i64 (-1)] : Array Value)[q]? = some v) => (At.new w #[.string req, .int .i64 1, .int .i64 (-1)] 139 hv).alloc (.cells #[.int .i64 0, .int .i64 0, .int .i64 0] 56)
    exact ⟨⟨this 0 _ rfl, this 1 _ rfl, h20, hz⟩, this 2 _ rfl⟩
  have K0 : Hid (∀ q v, (#[.int .i64 0, .int .i64 0, .int .i64 0] : Array Value)[q]? = some v → At ((w.alloc (.cells #[.string req, .int .i64 1, .int .i64 (-1)] 139)).alloc (.cells #[.int .i64 0, .int .i64 0, .int .i64 0] 56)) (w.alloc (.cells #[.string req, .int .i64 1, .int .i64 (-1)] 139)).heap.size q v) := fun q v hv => At.new (w.alloc (.cells #[.string req, .int .i64 1, .int .i64 (-1)] 139)) _ _ hv
  simp only [World.size_alloc] at K0
  have R0 := hid (H.out.fr FA.out (fun _ _ h => h))
  have GA := hid (G0.out.fr FA.out (fun h => h))
  have NC : Hid (¬ SM X M w.heap.size) := fun c => by have := HLT.out _ c; omega
  have NM : Hid (¬ SM X M (w.heap.size + 1)) := fun c => by have := HLT.out _ c; omega
  generalize (w.alloc (.cells #[.string req, .int .i64 1, .int .i64 (-1)] 139)).alloc (.cells #[.int .i64 0, .int .i64 0, .int .i64 0] 56) = w0 at *
  obtain ⟨C, hC⟩ : ∃ C, C = w.heap.size := ⟨_, rfl⟩
  rw [← hC] at S0 K0 NC NM ⊢
  obtain ⟨pM, hpM⟩ : ∃ pM, pM = C + 1 := ⟨_, rfl⟩
  rw [← hpM] at K0 NM ⊢
  have hMC : pM ≠ C := by omega
  have hQC : Q ≠ C := by omega
  have hQM : Q ≠ pM := by omega
  have HC : Hid (C = w.heap.size ∧ pM = C + 1) := ⟨hC, hpM⟩
  clear hC hpM H G0 hQl
  have c1 := S0.out.dc.c1.c
  have c2 := S0.out.c2.c
  have m0 := (K0.out 0 _ rfl).c
  have m1 := (K0.out 1 _ rfl).c
  have m2 := (K0.out 2 _ rfl).c
  have x0 := (K0.out 0 _ rfl).f
  have x1 := (K0.out 1 _ rfl).f
  have x2 := (K0.out 2 _ rfl).f
  have g := GA.out.c
  go_wp2_with fail
  refine (sdigU S0.out).mono ?_
  rintro e wd ⟨v, p1, a1, rfl, sn, rs, f1⟩
  have SD := hid sn
  have RSD := hid rs
  have FD := hid f1
  have KD := hid (fun q u hu => (K0.out q u hu).fr FD.out hMC)
  clear sn rs f1 c1 c2 m0 m1 m2 x0 x1 x2 g
  have m0 := (KD.out 0 _ rfl).c
  have x0 := (KD.out 0 _ rfl).f
  go_upto_region 27 with fail
  have FS : Hid (Fr (fun i => i = pM) wd (wd.setCell ⟨pM, 0, none⟩ (.int .i64 v))) := C2_fr pM 0 _
  have FX : Hid (Fr (fun i => i = C ∨ i = pM) w0 (wd.setCell ⟨pM, 0, none⟩ (.int .i64 v))) := (FD.out.mono (fun i _ h => Or.inl h)).trans (FS.out.mono (fun i _ h => Or.inr h))
  have SNZ := hid (SD.out.fr FS.out (fun e => hMC e.symm))
  have FZ : Hid (Fr (SM X M) w (wd.setCell ⟨pM, 0, none⟩ (.int .i64 v))) := (FA.out.mono (fun _ _ h => h.elim)).then FX.out (fun i hi e => by have := HC.out; omega)
  have RZ := hid (R0.out.fr FX.out (fun i c e => e.elim (fun e => NC.out (e ▸ c)) (fun e => NM.out (e ▸ c))))
  have GZ := hid (GA.out.fr FX.out (fun e => e.elim hQC hQM))
  have KZ : Hid (∀ q u, (#[.int .i64 v, .int .i64 0, .int .i64 0] : Array Value)[q]? = some u → At (wd.setCell ⟨pM, 0, none⟩ (.int .i64 v)) pM q u) := (fun q v hv => by match q, hv with | 0, hv => simp at hv; subst hv; exact (KD.out 0 _ rfl).same _ | 1, hv => simp at hv; subst hv; exact (KD.out 1 _ rfl).other (by omega) _ | 2, hv => simp at hv; subst hv; exact (KD.out 2 _ rfl).other (by omega) _ | q + 3, hv => simp at hv)
  generalize wd.setCell ⟨pM, 0, none⟩ (.int .i64 v) = wz at *
  clear m0 x0 FS FX SD FD KD R0 GA K0 S0
  have HSE := scan_end (RSD.out.map (fun x => (⟨78, ⟨x, 0, 0⟩, []⟩ : Cmd))) (decP_B HZ.out HV.out (.inr rfl))
  skip
  rcases HSE with ⟨q, hq, hd⟩ | ⟨ha, hp, hd⟩ | ⟨ha, hp, hd⟩
  · subst hq
    have HS : Hid (srv s req = (atA q, 8, s)) := srv_err h20 hd
    have hqL : q ≤ req.size := decP_le hd
    clear hd
    have hq0 : ¬ ((q : Int) < 0) := by omega
    have hq1 : (0 : Int) ≤ (q : Int) := by omega
    have c1 := SNZ.out.dc.c1.c
    have c2 := SNZ.out.c2.c
    have zz : (Ia.bs (Ia.itoa (q : Int))).size ≤ 21 := by rw [Ia.bs_size]; exact Ia.itoa_len _
    go_upto_region 30 with fail
    go_wp2_with fail
    refine (Ia.itoa_any (q : Int) _ (by omega) (by omega)).mono ?_
    rintro e w9 ⟨rfl, f9⟩
    go_wp2_with fail
    go_ret2
    unfold PostS
    rw [HS.out]
    exact ⟨rfl, RZ.out.fr f9 (fun _ _ h => h), FZ.out.trans (f9.mono (fun _ _ h => h.elim))⟩
  · subst ha
    have HS : Hid (srv s req = (atA p1, 8, s)) := srv_err h20 hd
    clear hd
    have hpI : ((p1 : Nat) : Int) < (req.size : Int) := by omega
    have hq1 : (0 : Int) ≤ ((p1 : Nat) : Int) := by omega
    have c1 := SNZ.out.dc.c1.c
    have c2 := SNZ.out.c2.c
    have y2 := SNZ.out.c2.f
    have zz : (Ia.bs (Ia.itoa (p1 : Int))).size ≤ 21 := by rw [Ia.bs_size]; exact Ia.itoa_len _
    go_upto_region 30 with fail
    have FY : Hid (Fr (fun i => i = C) wz (wz.setCell ⟨C, 2, none⟩ (.int .i64 (p1 : Int)))) := C2_fr C 2 _
    have RY := hid (RZ.out.fr FY.out (fun i c e => NC.out (e ▸ c)))
    have FW := hid (FZ.out.then FY.out (fun i hi e => by have := HC.out; omega))
    have c2' := (SNZ.out.c2.same (.int .i64 (p1 : Int))).c
    generalize wz.setCell ⟨C, 2, none⟩ (.int .i64 (p1 : Int)) = wy at *
    clear c1 c2 y2
    go_wp2_with fail
    refine (Ia.itoa_any (p1 : Int) _ (by omega) (by omega)).mono ?_
    rintro e w9 ⟨rfl, f9⟩
    go_wp2_with fail
    go_ret2
    unfold PostS
    rw [HS.out]
    exact ⟨rfl, RY.out.fr f9 (fun _ _ h => h), FW.out.trans (f9.mono (fun _ _ h => h.elim))⟩
  · subst ha
    have hpI : ¬ (((p1 : Nat) : Int) < (req.size : Int)) := by omega
    have c1 := SNZ.out.dc.c1.c
    have c2 := SNZ.out.c2.c
    have g := GZ.out.c
    have m0 := (KZ.out 0 _ rfl).c
    have m1 := (KZ.out 1 _ rfl).c
    have m2 := (KZ.out 2 _ rfl).c
    have HD := hid hd
    clear hd
    have hdg := RS_dig RSD.out
    clear m1 m2
    by_cases h4 : v < 4
    · have HE : Hid (runP s ⟨78, ⟨v, 0, 0⟩, []⟩ = some (L.bs (nameL v.toNat), 0) ∧ runS s ⟨78, ⟨v, 0, 0⟩, []⟩ = s) := by simp [Hid, runP, runS, h4]
      have HS : Hid (srv s req = (L.bs (nameL v.toNat), 0, s)) := srv_some h20 HD.out HE.out.1 HE.out.2
      clear HE HD
      have hcs : v = 0 ∨ v = 1 ∨ v = 2 ∨ v = 3 := by omega
      clear h4 hdg RSD
      rcases hcs with rfl | rfl | rfl | rfl
      all_goals
        go_upto_region 41 with fail
        have FN := hid ((Fr.refl (fun _ => False) wz).alloc (.cells #[.string ⟨#[97, 110, 110]⟩, .string ⟨#[98, 111, 98]⟩, .string ⟨#[99, 121, 100]⟩, .string ⟨#[100, 101, 101]⟩] 115))
        have KN : Hid (∀ q u, (#[.string ⟨#[97, 110, 110]⟩, .string ⟨#[98, 111, 98]⟩, .string ⟨#[99, 121, 100]⟩, .string ⟨#[100, 101, 101]⟩] : Array Value)[q]? = some u → At (wz.alloc (.cells #[.string ⟨#[97, 110, 110]⟩, .string ⟨#[98, 111, 98]⟩, .string ⟨#[99, 121, 100]⟩, .string ⟨#[100, 101, 101]⟩] 115)) wz.heap.size q u) := fun q u hu => At.new wz _ _ hu
        have m0' := ((KZ.out 0 _ rfl).fr FN.out (fun h => h)).c
        generalize wz.alloc (.cells #[.string ⟨#[97, 110, 110]⟩, .string ⟨#[98, 111, 98]⟩, .string ⟨#[99, 121, 100]⟩, .string ⟨#[100, 101, 101]⟩] 115) = wn at *
        generalize wz.heap.size = pN at *
        clear m0
        have n0 := (KN.out 0 _ rfl).c
        have n1 := (KN.out 1 _ rfl).c
        have n2 := (KN.out 2 _ rfl).c
        have n3 := (KN.out 3 _ rfl).c
        go_wp2_with fail
        go_ret2
        unfold PostS
        rw [HS.out]
        refine ⟨rfl, RZ.out.fr FN.out (fun _ _ h => h), FZ.out.trans (FN.out.mono (fun _ _ h => h.elim))⟩
    · have HE : Hid (runP s ⟨78, ⟨v, 0, 0⟩, []⟩ = none ∧ runS s ⟨78, ⟨v, 0, 0⟩, []⟩ = s) := by simp [Hid, runP, runS, h4]
      have HS : Hid (srv s req = (⟨#[]⟩, 9, s)) := srv_none h20 HD.out HE.out.1 HE.out.2
      clear HE HD
      have h4' : 4 ≤ v := by omega
      go_wp2_with fail
      go_ret2
      unfold PostS
      rw [HS.out]
      exact ⟨rfl, RZ.out, FZ.out⟩

end Go.Proofs.Qxb6500452a
