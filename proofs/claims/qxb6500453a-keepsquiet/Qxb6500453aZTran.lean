/- What the law owes: OwedTransfer. -/
import Derived.Test.Qxb6500453aZOwed
namespace Go.Proofs.Qxb6500453a
open Go Go.RowKit
set_option maxRecDepth 100000
set_option maxHeartbeats 1600000
set_option linter.unusedSimpArgs false
set_option linter.unusedVariables false

/-- An end at an answer's box that reads so. -/
theorem retOA {fn : Func} {R : Ending → World → Prop} {a : Act} {W : World} {c d pa : Nat} {tv v0 v1 v2 v3 : Value} (hres : fn.results = #[.cell c 51, .tmp d]) (h6 : a.tmps.getD d undef = tv) (ht : a.tmps.getD c undef = .pointer (some ⟨pa, 0, none⟩)) (hd : a.defers = [])
    (a0 : At W pa 0 v0) (a1 : At W pa 1 v1) (a2 : At W pa 2 v2) (a3 : At W pa 3 v3) (hR : R (.returned (.tuple #[.agg #[v0, v1, v2, v3], tv])) W) : bodyPost Try.prog fn R .ret a W := by
  have z0 := a0.c
  have z1 := a1.c
  have z2 := a2.c
  have z3 := a3.c
  have ht' : a.tmps[c]?.getD undef = .pointer (some ⟨pa, 0, none⟩) := by simpa using ht
  have h6' : a.tmps[d]?.getD undef = tv := by simpa using h6
  refine ⟨hd, _, ?_, hR⟩
  simp [results, hres, go_sem, ht', h6', z0, z1, z2, z3]
theorem retOB {fn : Func} {R : Ending → World → Prop} {a : Act} {W : World} {pa : Nat} {tv sv v0 v1 v2 v3 : Value} (hres : fn.results = #[.cell 4 51, .tmp 5, .tmp 6]) (h5 : a.tmps.getD 5 undef = tv) (h6 : a.tmps.getD 6 undef = sv) (ht : a.tmps.getD 4 undef = .pointer (some ⟨pa, 0, none⟩)) (hd : a.defers = [])
    (a0 : At W pa 0 v0) (a1 : At W pa 1 v1) (a2 : At W pa 2 v2) (a3 : At W pa 3 v3) (hR : R (.returned (.tuple #[.agg #[v0, v1, v2, v3], tv, sv])) W) : bodyPost Try.prog fn R .ret a W := by
  have z0 := a0.c
  have z1 := a1.c
  have z2 := a2.c
  have z3 := a3.c
  have ht' : a.tmps[4]?.getD undef = .pointer (some ⟨pa, 0, none⟩) := by simpa using ht
  have h5' : a.tmps[5]?.getD undef = tv := by simpa using h5
  have h6' : a.tmps[6]?.getD undef = sv := by simpa using h6
  refine ⟨hd, _, ?_, hR⟩
  simp [results, hres, go_sem, ht', h5', h6', z0, z1, z2, z3]

theorem otransfer_any {w : World} {P : Nat} {s : Led} {v : Value} (g : GH w P s.bal s.un s.lk.op v) (ok : s.lk.Ok) (bl : ∀ k, k < 4 → 0 ≤ s.bal k ∧ s.bal k ≤ 250) (f t a : Int) :
    Calls Try.prog 54 #[.pointer (some ⟨P, 0, none⟩), .agg #[.int .i64 f, .int .i64 t, .int .i64 a]] w fun e w' => e = .returned (.tuple #[ansV (trE s f t a) (trN s f t a) 0 ⟨#[]⟩, .string (L.bs (trS s f t a).lk.tr)]) ∧
      GH w' P (trS s f t a).bal (trS s f t a).un s.lk.op v ∧ Kept s.lk (trS s f t a).lk ∧ Fr (fun i => i = P) w w' := by
  have HG := hid g
  have OK := hid ok
  have BL := hid bl
  have hP : P < w.heap.size := g.lt
  clear g ok bl
  go_enter Try.func54, Try.ntmps54
  go_upto_region 1 with fail
  have BX : Hid (Box ((w.alloc (.cells #[.int .i64 f, .int .i64 t, .int .i64 a] 33)).alloc (.cells #[.int .i64 0, .int .i64 0, .int .i64 0, .string ⟨#[]⟩] 51)) (w.heap.size + 1)) := by
    have := Box.new (w.alloc (.cells #[.int .i64 f, .int .i64 t, .int .i64 a] 33))
    simp only [World.size_alloc] at this
    exact this
  have MV : Hid (∀ q v, (#[.int .i64 f, .int .i64 t, .int .i64 a] : Array Value)[q]? = some v → At ((w.alloc (.cells #[.int .i64 f, .int .i64 t, .int .i64 a] 33)).alloc (.cells #[.int .i64 0, .int .i64 0, .int .i64 0, .string ⟨#[]⟩] 51)) w.heap.size q v) := fun q v hv => (At.new w _ _ hv).alloc _
  have F0 := hid (two_fr w (.cells #[.int .i64 f, .int .i64 t, .int .i64 a] 33) (.cells #[.int .i64 0, .int .i64 0, .int .i64 0, .string ⟨#[]⟩] 51))
  generalize (w.alloc (.cells #[.int .i64 f, .int .i64 t, .int .i64 a] 33)).alloc (.cells #[.int .i64 0, .int .i64 0, .int .i64 0, .string ⟨#[]⟩] 51) = w0 at *
  obtain ⟨pa, hpa⟩ : ∃ pa, pa = w.heap.size + 1 := ⟨_, rfl⟩
  rw [← hpa] at BX ⊢
  obtain ⟨pm, hpm⟩ : ∃ pm, pm = w.heap.size := ⟨_, rfl⟩
  rw [← hpm] at MV ⊢
  have HPA : Hid (pa = w.heap.size + 1 ∧ pm = w.heap.size) := ⟨hpa, hpm⟩
  have hmP : P ≠ pm := by omega
  have haP : P ≠ pa := by omega
  have ham : pa ≠ pm := by omega
  clear hpa hpm
  have m0 := (MV.out 0 _ rfl).c
  have m1 := (MV.out 1 _ rfl).c
  have m2 := (MV.out 2 _ rfl).c
  go_wp2_with fail
  refine (plain_any f t a w0).mono ?_
  rintro e w1 ⟨rfl, f1⟩
  have B1 := hid (BX.out.fr f1 (fun h => h))
  have M1 := hid (fun q v hv => (MV.out q v hv).fr f1 (fun h => h))
  have F1 := hid (F0.out.trans f1)
  have G1 := hid (HG.out.fr F1.out (fun h => h))
  clear f1 m0 m1 m2 BX MV F0
  have c0 := B1.out.a0.c
  have x0 := B1.out.a0.f
  have c1 := B1.out.a1.c
  have x1 := B1.out.a1.f
  have c2 := B1.out.a2.c
  have x2 := B1.out.a2.f
  have c3 := B1.out.a3.c
  have x3 := B1.out.a3.f
  by_cases hc : chk f t a = 0
  · obtain ⟨fn, tn, rfl, rfl, hf4, ht4, hne, a1, a2⟩ := chk_ok hc
    have HC := hid hc
    rw [hc]
    clear hc
    have hfI : (fn : Int) < 4 := by omega
    have htI : (tn : Int) < 4 := by omega
    have hf0 : (0 : Int) ≤ (fn : Int) := by omega
    have ht0 : (0 : Int) ≤ (tn : Int) := by omega
    have m0 := (M1.out 0 _ rfl).c
    have m1 := (M1.out 1 _ rfl).c
    have m2 := (M1.out 2 _ rfl).c
    have HL4 := hid (lon_lt hf4 ht4)
    have HK0 := hid (L.clear_ok OK.out)
    go_upto_region 4 with fail
    go_region
    go_upto_region 5 with fail
    have B2 := hid (B1.out.fr ((Fr.refl (fun _ => False) w1).drew) (fun h => h))
    have M2 := hid (fun q v hv => (M1.out q v hv).drew)
    have F2 := hid (F1.out.drew)
    have G2 := hid (HG.out.fr F2.out (fun h => h))
    clear B1 M1 F1 G1 m0 m1 m2 c0 c1 c2 c3 x0 x1 x2 x3
    generalize w1.drew = w2 at *
    have c0 := B2.out.a0.c
    have x0 := B2.out.a0.f
    have c1 := B2.out.a1.c
    have x1 := B2.out.a1.f
    have c2 := B2.out.a2.c
    have x2 := B2.out.a2.f
    have c3 := B2.out.a3.c
    have x3 := B2.out.a3.f
    have m0 := (M2.out 0 _ rfl).c
    have m1 := (M2.out 1 _ rfl).c
    have m2 := (M2.out 2 _ rfl).c
    by_cases hsw : tn < fn
    · have hswI : (tn : Int) < (fn : Int) := by omega
      have el : lon fn tn = tn := by unfold lon; rw [if_pos hsw]
      have eh : hin fn tn = fn := by unfold hin; rw [if_pos hsw]
      have cl := (G2.out.gm tn (by omega)).c
      have ch := (G2.out.gm fn (by omega)).c
      rcases hol : s.lk.op tn with _ | _
      · rw [hol] at cl
        rcases hoh : s.lk.op fn with _ | _
        · rw [hoh] at ch
          have hsz : (L.bs [65, L.dig tn, 65, L.dig fn]).size ≤ 4 := by rw [bs_size]; simp
          have hsz2 : (L.bs [82, L.dig tn, 82, L.dig fn]).size ≤ 4 := by rw [bs_size]; simp
          have TF := hid (tr_free HK0.out rfl hf4 ht4 hne (by rw [el]; exact hol) (by rw [eh]; exact hoh))
          have HPE : Hid (prE s (fn : Int) (tn : Int) = 0) := by unfold Hid prE; rw [pair_ok hf4 ht4 hne (by rw [el]; exact hol) (by rw [eh]; exact hoh)]
          rw [el, eh] at TF
          clear hol hoh
          go_wp2_with fail
          refine (ev2_any 65 65 (by omega) (by omega) w2).mono ?_
          rintro e w3 ⟨rfl, f3⟩
          have B3 := hid (B2.out.fr f3 (fun h => h))
          have M3 := hid (fun q v hv => (M2.out q v hv).fr f3 (fun h => h))
          have G3 := hid (G2.out.fr f3 (fun h => h))
          have F3 := hid (F2.out.trans f3)
          clear f3 cl ch m0 m1 m2 B2 M2 G2 F2 c0 c1 c2 c3 x0 x1 x2 x3
          have m0 := (M3.out 0 _ rfl).c
          have m1 := (M3.out 1 _ rfl).c
          have m2 := (M3.out 2 _ rfl).c
          go_wp2_with fail
          refine (ev2_any 82 82 ht4 hf4 w3).mono ?_
          rintro e w4 ⟨rfl, f4⟩
          have B4 := hid (B3.out.fr f4 (fun h => h))
          have M4 := hid (fun q v hv => (M3.out q v hv).fr f4 (fun h => h))
          have G4 := hid (G3.out.fr f4 (fun h => h))
          have F4 := hid (F3.out.trans f4)
          clear f4 m0 m1 m2 B3 M3 G3 F3
          have m0 := (M4.out 0 _ rfl).c
          have m1 := (M4.out 1 _ rfl).c
          have m2 := (M4.out 2 _ rfl).c
          have HRP := hid (gpay_any (w := w4.drew) (B := P) (off := 0) (bal := s.bal) (fun k hk => by rw [Nat.zero_add]; exact (G4.out.gb k hk).drew) hf4 ht4 hne a1 a2 BL.out)
          go_upto_region 13 with fail
          go_region_held3 (fun W => W.cell? ⟨pm, 0, none⟩ = some (.int .i64 (fn : Int)) ∧ W.cell? ⟨pm, 1, none⟩ = some (.int .i64 (tn : Int)) ∧ W.cell? ⟨pm, 2, none⟩ = some (.int .i64 a)) (go_keep) (first | (go_at_call 73; refine HRP.out.mono ?_; rintro e z ⟨rfl, zb, zo, gz⟩; have z0 : z.cell? ⟨pm, 0, none⟩ = some (.int .i64 (fn : Int)) := cellFr gz (fun e => hmP e.symm) (by simp [*]); have z1 : z.cell? ⟨pm, 1, none⟩ = some (.int .i64 (tn : Int)) := cellFr gz (fun e => hmP e.symm) (by simp [*]); have z2 : z.cell? ⟨pm, 2, none⟩ = some (.int .i64 a) := cellFr gz (fun e => hmP e.symm) (by simp [*])))
          go_upto_region 14 with fail
          have B5 := hid ((B4.out.fr ((Fr.refl (fun _ => False) w4).drew) (fun h => h)).fr gz (fun e => haP e.symm))
          have M5 := hid (fun q v hv => (M4.out q v hv).drew.fr gz (fun e => hmP e.symm))
          have G5 : Hid (GH z P (payM s.bal fn tn a) s.un s.lk.op v) := ⟨fun k hk => by have := zb k hk; rw [Nat.zero_add] at this; exact this, zo _ _ (by omega) G4.out.gu.drew, fun k hk => zo _ _ (by omega) (G4.out.gm k hk).drew, zo _ _ (by omega) G4.out.gh.drew⟩
          have F5 : Hid (Fr (fun i => i = P) w z) := (F4.out.drew.mono (fun _ _ h => h.elim)).trans gz
          clear zb zo gz HRP m0 m1 m2 B4 M4 G4 F4
          have HE : Hid (trE s (fn : Int) (tn : Int) a = payE s.bal fn tn a ∧ trN s (fn : Int) (tn : Int) a = (if payE s.bal fn tn a = 0 then payB s.bal fn tn a fn else 0) ∧ trS s (fn : Int) (tn : Int) a = ⟨relAll [(L.pair (L.clear s.lk) (fn : Int) (tn : Int)).2.1, (L.pair (L.clear s.lk) (fn : Int) (tn : Int)).1] (L.pair (L.clear s.lk) (fn : Int) (tn : Int)).2.2.2, payM s.bal fn tn a, if payE s.bal fn tn a = 7 then bump s.un else s.un⟩) := by
            have h1 : trE s (fn : Int) (tn : Int) a = payE s.bal fn tn a := by unfold trE; rw [if_neg (fun h => h HC.out), if_neg (fun h => h HPE.out)]; simp
            refine ⟨h1, ?_, ?_⟩
            · unfold trN; rw [h1]; simp
            · unfold trS prS payM; rw [if_neg (fun h => h HC.out), if_neg (fun h => h HPE.out)]; simp
          have HTR : Hid (L.bs [65, L.dig tn, 65, L.dig fn] ++ L.bs [82, L.dig tn, 82, L.dig fn] = L.bs (trS s (fn : Int) (tn : Int) a).lk.tr) := by
            unfold Hid
            rw [HE.out.2.2, L.bs_append]
            simp only
            rw [TF.out.2]
          have HKP : Hid (Kept s.lk (trS s (fn : Int) (tn : Int) a).lk) := by
            unfold Hid
            rw [HE.out.2.2]
            exact (kept_clear s.lk).trans TF.out.1
          clear HPE TF
          generalize L.bs [65, L.dig tn, 65, L.dig fn] ++ L.bs [82, L.dig tn, 82, L.dig fn] = trv at *
          have c0 := B5.out.a0.c
          have x0 := B5.out.a0.f
          have c1 := B5.out.a1.c
          have x1 := B5.out.a1.f
          have c2 := B5.out.a2.c
          have x2 := B5.out.a2.f
          have c3 := B5.out.a3.c
          have x3 := B5.out.a3.f
          rcases payE_cases s.bal fn tn a with he | he | he
          · rw [he] at HE ⊢
            rw [if_pos rfl, if_neg (by decide)] at HE
            have hpm : payM s.bal fn tn a = payB s.bal fn tn a := by unfold payM; rw [if_pos he]
            rw [hpm] at G5 HE
            clear he hpm
            have g0 := (G5.out.gb fn hf4).c
            have m0 := (M5.out 0 _ rfl).c
            generalize payB s.bal fn tn a = bb at *
            go_upto_region 18 with fail
            go_region
            go_wp2_with fail
            refine retOA Try.results54 rfl rfl rfl ((((B5.out.a0.same _).other (by omega) _).other (by omega) _).other (by omega) _).drew ((((B5.out.a1.other (by omega) _).same _).other (by omega) _).other (by omega) _).drew ((((B5.out.a2.other (by omega) _).other (by omega) _).same _).other (by omega) _).drew ((((B5.out.a3.other (by omega) _).other (by omega) _).other (by omega) _).same _).drew ?_
            have e1 := HE.out.1
            have e2 := HE.out.2.1
            have e3 := HE.out.2.2
            rw [HTR.out, e1, e2]
            refine ⟨rfl, ?_, HKP.out, (F5.out.then (S' := fun i => i = pa) (in_fr pa _ _ (in_fr _ _ _ (in_fr _ _ _ (in_fr _ _ _ (Fr.refl _ _))))) (fun i hi e => by have := HPA.out; omega)).drew⟩
            rw [e3]
            exact (G5.out.fr (S := fun i => i = pa) (in_fr pa _ _ (in_fr _ _ _ (in_fr _ _ _ (in_fr _ _ _ (Fr.refl _ _))))) haP).fr ((Fr.refl (fun _ => False) _).drew) (fun h => h)
          · rw [he] at HE ⊢
            rw [if_neg (by decide), if_neg (by decide)] at HE
            clear he
            go_wp2_with fail
            refine retO2 Try.results54 rfl rfl rfl B5.out.a0.has B5.out.a1.has B5.out.a2.has B5.out.a3.has ?_
            have e1 := HE.out.1
            have e2 := HE.out.2.1
            have e3 := HE.out.2.2
            rw [HTR.out, e1, e2]
            refine ⟨rfl, ?_, HKP.out, F5.out.then (S' := fun i => i = pa) (in_fr pa _ _ (in_fr _ _ _ (in_fr _ _ _ (in_fr _ _ _ (Fr.refl _ _))))) (fun i hi e => by have := HPA.out; omega)⟩
            rw [e3]
            exact G5.out.fr (S := fun i => i = pa) (in_fr pa _ _ (in_fr _ _ _ (in_fr _ _ _ (in_fr _ _ _ (Fr.refl _ _))))) haP
          · rw [he] at HE ⊢
            rw [if_neg (by decide), if_pos rfl] at HE
            clear he
            have u5 := G5.out.gu.c
            have x5 := G5.out.gu.f
            go_wp2_with fail
            refine (bump_any s.un z).mono ?_
            rintro e y ⟨rfl, hy⟩
            obtain rfl := hy.symm
            have B6 := hid (B5.out.fr (in_fr P 4 (.int .i64 (bump s.un : Int)) (Fr.refl _ z)) (fun e => haP e.symm))
            have G6 : Hid (GH (z.setCell ⟨P, 4, none⟩ (.int .i64 (bump s.un : Int))) P (payM s.bal fn tn a) (bump s.un) s.lk.op v) := ⟨fun k hk => (G5.out.gb k hk).other (by omega) _, G5.out.gu.same _, fun k hk => (G5.out.gm k hk).other (by omega) _, G5.out.gh.other (by omega) _⟩
            have F6 : Hid (Fr (fun i => i = P) w (z.setCell ⟨P, 4, none⟩ (.int .i64 (bump s.un : Int)))) := F5.out.trans (in_fr P 4 (.int .i64 (bump s.un : Int)) (Fr.refl _ z))
            go_upto_region 16 with fail
            clear u5 x5 c0 c1 c2 c3 x0 x1 x2 x3 B5 G5 F5
            generalize z.setCell ⟨P, 4, none⟩ (.int .i64 (bump s.un : Int)) = z6 at *
            have c0 := B6.out.a0.c
            have x0 := B6.out.a0.f
            have c1 := B6.out.a1.c
            have x1 := B6.out.a1.f
            have c2 := B6.out.a2.c
            have x2 := B6.out.a2.f
            have c3 := B6.out.a3.c
            have x3 := B6.out.a3.f
            go_wp2_with fail
            refine retO2 Try.results54 rfl rfl rfl B6.out.a0.has B6.out.a1.has B6.out.a2.has B6.out.a3.has ?_
            have e1 := HE.out.1
            have e2 := HE.out.2.1
            have e3 := HE.out.2.2
            rw [HTR.out, e1, e2]
            refine ⟨rfl, ?_, HKP.out, F6.out.then (S' := fun i => i = pa) (in_fr pa _ _ (in_fr _ _ _ (in_fr _ _ _ (in_fr _ _ _ (Fr.refl _ _))))) (fun i hi e => by have := HPA.out; omega)⟩
            rw [e3]
            exact G6.out.fr (S := fun i => i = pa) (in_fr pa _ _ (in_fr _ _ _ (in_fr _ _ _ (in_fr _ _ _ (Fr.refl _ _))))) haP
        · rw [hoh] at ch
          have HE : Hid (trE s (fn : Int) (tn : Int) a = 4 ∧ trN s (fn : Int) (tn : Int) a = 0 ∧ trS s (fn : Int) (tn : Int) a = ⟨L.give (L.take (L.clear s.lk) tn) tn, s.bal, s.un⟩) := by
            have hp := pair_hi (st := L.clear s.lk) hf4 ht4 hne (by rw [el]; exact hol) (by rw [eh]; exact hoh)
            rw [el] at hp
            have h1 : trE s (fn : Int) (tn : Int) a = 4 := by unfold trE prE; rw [if_neg (fun h => h HC.out), hp, if_pos (by simp)]
            refine ⟨h1, ?_, ?_⟩
            · unfold trN; rw [if_neg (by rw [h1]; decide)]
            · unfold trS prE prS; rw [if_neg (fun h => h HC.out), hp, if_pos (by simp)]
          have HKO := hid ((kept_clear s.lk).trans (kept_one (st := L.clear s.lk) (n := tn) hol))
          clear hol hoh
          go_wp2_with fail
          refine (ev2_any 65 82 (by omega) (by omega) w2).mono ?_
          rintro e w3 ⟨rfl, f3⟩
          have B3 := hid (B2.out.fr f3 (fun h => h))
          have G3 := hid (G2.out.fr f3 (fun h => h))
          have F3 := hid (F2.out.trans f3)
          clear f3 cl ch m0 m1 m2 c0 c1 c2 c3 x0 x1 x2 x3
          have c0 := B3.out.a0.c
          have x0 := B3.out.a0.f
          have c1 := B3.out.a1.c
          have x1 := B3.out.a1.f
          have c2 := B3.out.a2.c
          have x2 := B3.out.a2.f
          have c3 := B3.out.a3.c
          have x3 := B3.out.a3.f
          go_wp2_with fail
          refine retO2 Try.results54 rfl rfl rfl B3.out.a0.has B3.out.a1.has B3.out.a2.has B3.out.a3.has ?_
          rw [HE.out.1, HE.out.2.1, HE.out.2.2]
          have ht : (L.give (L.take (L.clear s.lk) tn) tn).tr = [65, L.dig tn, 82, L.dig tn] := one_tr (st := L.clear s.lk) (by simp [L.clear])
          rw [ht]
          refine ⟨rfl, G3.out.fr (S := fun i => i = pa) (in_fr pa _ _ (in_fr _ _ _ (in_fr _ _ _ (in_fr _ _ _ (Fr.refl _ _))))) haP, HKO.out, (F3.out.mono (fun _ _ h => h.elim)).then (S' := fun i => i = pa) (in_fr pa _ _ (in_fr _ _ _ (in_fr _ _ _ (in_fr _ _ _ (Fr.refl _ _))))) (fun i hi e => by have := HPA.out; omega)⟩
      · rw [hol] at cl
        have HE : Hid (trE s (fn : Int) (tn : Int) a = 4 ∧ trN s (fn : Int) (tn : Int) a = 0 ∧ trS s (fn : Int) (tn : Int) a = ⟨L.clear s.lk, s.bal, s.un⟩) := by
          have hp := pair_lo (st := L.clear s.lk) hf4 ht4 hne (by rw [el]; exact hol)
          have h1 : trE s (fn : Int) (tn : Int) a = 4 := by unfold trE prE; rw [if_neg (fun h => h HC.out), hp, if_pos (by simp)]
          refine ⟨h1, ?_, ?_⟩
          · unfold trN; rw [if_neg (by rw [h1]; decide)]
          · unfold trS prE prS; rw [if_neg (fun h => h HC.out), hp, if_pos (by simp)]
        clear hol
        go_wp2_with fail
        refine retO2 Try.results54 rfl rfl rfl B2.out.a0.has B2.out.a1.has B2.out.a2.has B2.out.a3.has ?_
        rw [HE.out.1, HE.out.2.1, HE.out.2.2]
        refine ⟨rfl, G2.out.fr (S := fun i => i = pa) (in_fr pa _ _ (in_fr _ _ _ (in_fr _ _ _ (in_fr _ _ _ (Fr.refl _ _))))) haP, kept_clear s.lk, (F2.out.mono (fun _ _ h => h.elim)).then (S' := fun i => i = pa) (in_fr pa _ _ (in_fr _ _ _ (in_fr _ _ _ (in_fr _ _ _ (Fr.refl _ _))))) (fun i hi e => by have := HPA.out; omega)⟩
    · have hswI : ¬ (tn : Int) < (fn : Int) := by omega
      have el : lon fn tn = fn := by unfold lon; rw [if_neg hsw]
      have eh : hin fn tn = tn := by unfold hin; rw [if_neg hsw]
      have cl := (G2.out.gm fn (by omega)).c
      have ch := (G2.out.gm tn (by omega)).c
      rcases hol : s.lk.op fn with _ | _
      · rw [hol] at cl
        rcases hoh : s.lk.op tn with _ | _
        · rw [hoh] at ch
          have hsz : (L.bs [65, L.dig fn, 65, L.dig tn]).size ≤ 4 := by rw [bs_size]; simp
          have hsz2 : (L.bs [82, L.dig tn, 82, L.dig fn]).size ≤ 4 := by rw [bs_size]; simp
          have TF := hid (tr_free HK0.out rfl hf4 ht4 hne (by rw [el]; exact hol) (by rw [eh]; exact hoh))
          have HPE : Hid (prE s (fn : Int) (tn : Int) = 0) := by unfold Hid prE; rw [pair_ok hf4 ht4 hne (by rw [el]; exact hol) (by rw [eh]; exact hoh)]
          rw [el, eh] at TF
          clear hol hoh
          go_wp2_with fail
          refine (ev2_any 65 65 (by omega) (by omega) w2).mono ?_
          rintro e w3 ⟨rfl, f3⟩
          have B3 := hid (B2.out.fr f3 (fun h => h))
          have M3 := hid (fun q v hv => (M2.out q v hv).fr f3 (fun h => h))
          have G3 := hid (G2.out.fr f3 (fun h => h))
          have F3 := hid (F2.out.trans f3)
          clear f3 cl ch m0 m1 m2 B2 M2 G2 F2 c0 c1 c2 c3 x0 x1 x2 x3
          have m0 := (M3.out 0 _ rfl).c
          have m1 := (M3.out 1 _ rfl).c
          have m2 := (M3.out 2 _ rfl).c
          go_wp2_with fail
          refine (ev2_any 82 82 ht4 hf4 w3).mono ?_
          rintro e w4 ⟨rfl, f4⟩
          have B4 := hid (B3.out.fr f4 (fun h => h))
          have M4 := hid (fun q v hv => (M3.out q v hv).fr f4 (fun h => h))
          have G4 := hid (G3.out.fr f4 (fun h => h))
          have F4 := hid (F3.out.trans f4)
          clear f4 m0 m1 m2 B3 M3 G3 F3
          have m0 := (M4.out 0 _ rfl).c
          have m1 := (M4.out 1 _ rfl).c
          have m2 := (M4.out 2 _ rfl).c
          have HRP := hid (gpay_any (w := w4.drew) (B := P) (off := 0) (bal := s.bal) (fun k hk => by rw [Nat.zero_add]; exact (G4.out.gb k hk).drew) hf4 ht4 hne a1 a2 BL.out)
          go_upto_region 13 with fail
          go_region_held3 (fun W => W.cell? ⟨pm, 0, none⟩ = some (.int .i64 (fn : Int)) ∧ W.cell? ⟨pm, 1, none⟩ = some (.int .i64 (tn : Int)) ∧ W.cell? ⟨pm, 2, none⟩ = some (.int .i64 a)) (go_keep) (first | (go_at_call 73; refine HRP.out.mono ?_; rintro e z ⟨rfl, zb, zo, gz⟩; have z0 : z.cell? ⟨pm, 0, none⟩ = some (.int .i64 (fn : Int)) := cellFr gz (fun e => hmP e.symm) (by simp [*]); have z1 : z.cell? ⟨pm, 1, none⟩ = some (.int .i64 (tn : Int)) := cellFr gz (fun e => hmP e.symm) (by simp [*]); have z2 : z.cell? ⟨pm, 2, none⟩ = some (.int .i64 a) := cellFr gz (fun e => hmP e.symm) (by simp [*])))
          go_upto_region 14 with fail
          have B5 := hid ((B4.out.fr ((Fr.refl (fun _ => False) w4).drew) (fun h => h)).fr gz (fun e => haP e.symm))
          have M5 := hid (fun q v hv => (M4.out q v hv).drew.fr gz (fun e => hmP e.symm))
          have G5 : Hid (GH z P (payM s.bal fn tn a) s.un s.lk.op v) := ⟨fun k hk => by have := zb k hk; rw [Nat.zero_add] at this; exact this, zo _ _ (by omega) G4.out.gu.drew, fun k hk => zo _ _ (by omega) (G4.out.gm k hk).drew, zo _ _ (by omega) G4.out.gh.drew⟩
          have F5 : Hid (Fr (fun i => i = P) w z) := (F4.out.drew.mono (fun _ _ h => h.elim)).trans gz
          clear zb zo gz HRP m0 m1 m2 B4 M4 G4 F4
          have HE : Hid (trE s (fn : Int) (tn : Int) a = payE s.bal fn tn a ∧ trN s (fn : Int) (tn : Int) a = (if payE s.bal fn tn a = 0 then payB s.bal fn tn a fn else 0) ∧ trS s (fn : Int) (tn : Int) a = ⟨relAll [(L.pair (L.clear s.lk) (fn : Int) (tn : Int)).2.1, (L.pair (L.clear s.lk) (fn : Int) (tn : Int)).1] (L.pair (L.clear s.lk) (fn : Int) (tn : Int)).2.2.2, payM s.bal fn tn a, if payE s.bal fn tn a = 7 then bump s.un else s.un⟩) := by
            have h1 : trE s (fn : Int) (tn : Int) a = payE s.bal fn tn a := by unfold trE; rw [if_neg (fun h => h HC.out), if_neg (fun h => h HPE.out)]; simp
            refine ⟨h1, ?_, ?_⟩
            · unfold trN; rw [h1]; simp
            · unfold trS prS payM; rw [if_neg (fun h => h HC.out), if_neg (fun h => h HPE.out)]; simp
          have HTR : Hid (L.bs [65, L.dig fn, 65, L.dig tn] ++ L.bs [82, L.dig tn, 82, L.dig fn] = L.bs (trS s (fn : Int) (tn : Int) a).lk.tr) := by
            unfold Hid
            rw [HE.out.2.2, L.bs_append]
            simp only
            rw [TF.out.2]
          have HKP : Hid (Kept s.lk (trS s (fn : Int) (tn : Int) a).lk) := by
            unfold Hid
            rw [HE.out.2.2]
            exact (kept_clear s.lk).trans TF.out.1
          clear HPE TF
          generalize L.bs [65, L.dig fn, 65, L.dig tn] ++ L.bs [82, L.dig tn, 82, L.dig fn] = trv at *
          have c0 := B5.out.a0.c
          have x0 := B5.out.a0.f
          have c1 := B5.out.a1.c
          have x1 := B5.out.a1.f
          have c2 := B5.out.a2.c
          have x2 := B5.out.a2.f
          have c3 := B5.out.a3.c
          have x3 := B5.out.a3.f
          rcases payE_cases s.bal fn tn a with he | he | he
          · rw [he] at HE ⊢
            rw [if_pos rfl, if_neg (by decide)] at HE
            have hpm : payM s.bal fn tn a = payB s.bal fn tn a := by unfold payM; rw [if_pos he]
            rw [hpm] at G5 HE
            clear he hpm
            have g0 := (G5.out.gb fn hf4).c
            have m0 := (M5.out 0 _ rfl).c
            generalize payB s.bal fn tn a = bb at *
            go_upto_region 18 with fail
            go_region
            go_wp2_with fail
            refine retOA Try.results54 rfl rfl rfl ((((B5.out.a0.same _).other (by omega) _).other (by omega) _).other (by omega) _).drew ((((B5.out.a1.other (by omega) _).same _).other (by omega) _).other (by omega) _).drew ((((B5.out.a2.other (by omega) _).other (by omega) _).same _).other (by omega) _).drew ((((B5.out.a3.other (by omega) _).other (by omega) _).other (by omega) _).same _).drew ?_
            have e1 := HE.out.1
            have e2 := HE.out.2.1
            have e3 := HE.out.2.2
            rw [HTR.out, e1, e2]
            refine ⟨rfl, ?_, HKP.out, (F5.out.then (S' := fun i => i = pa) (in_fr pa _ _ (in_fr _ _ _ (in_fr _ _ _ (in_fr _ _ _ (Fr.refl _ _))))) (fun i hi e => by have := HPA.out; omega)).drew⟩
            rw [e3]
            exact (G5.out.fr (S := fun i => i = pa) (in_fr pa _ _ (in_fr _ _ _ (in_fr _ _ _ (in_fr _ _ _ (Fr.refl _ _))))) haP).fr ((Fr.refl (fun _ => False) _).drew) (fun h => h)
          · rw [he] at HE ⊢
            rw [if_neg (by decide), if_neg (by decide)] at HE
            clear he
            go_wp2_with fail
            refine retO2 Try.results54 rfl rfl rfl B5.out.a0.has B5.out.a1.has B5.out.a2.has B5.out.a3.has ?_
            have e1 := HE.out.1
            have e2 := HE.out.2.1
            have e3 := HE.out.2.2
            rw [HTR.out, e1, e2]
            refine ⟨rfl, ?_, HKP.out, F5.out.then (S' := fun i => i = pa) (in_fr pa _ _ (in_fr _ _ _ (in_fr _ _ _ (in_fr _ _ _ (Fr.refl _ _))))) (fun i hi e => by have := HPA.out; omega)⟩
            rw [e3]
            exact G5.out.fr (S := fun i => i = pa) (in_fr pa _ _ (in_fr _ _ _ (in_fr _ _ _ (in_fr _ _ _ (Fr.refl _ _))))) haP
          · rw [he] at HE ⊢
            rw [if_neg (by decide), if_pos rfl] at HE
            clear he
            have u5 := G5.out.gu.c
            have x5 := G5.out.gu.f
            go_wp2_with fail
            refine (bump_any s.un z).mono ?_
            rintro e y ⟨rfl, hy⟩
            obtain rfl := hy.symm
            have B6 := hid (B5.out.fr (in_fr P 4 (.int .i64 (bump s.un : Int)) (Fr.refl _ z)) (fun e => haP e.symm))
            have G6 : Hid (GH (z.setCell ⟨P, 4, none⟩ (.int .i64 (bump s.un : Int))) P (payM s.bal fn tn a) (bump s.un) s.lk.op v) := ⟨fun k hk => (G5.out.gb k hk).other (by omega) _, G5.out.gu.same _, fun k hk => (G5.out.gm k hk).other (by omega) _, G5.out.gh.other (by omega) _⟩
            have F6 : Hid (Fr (fun i => i = P) w (z.setCell ⟨P, 4, none⟩ (.int .i64 (bump s.un : Int)))) := F5.out.trans (in_fr P 4 (.int .i64 (bump s.un : Int)) (Fr.refl _ z))
            go_upto_region 16 with fail
            clear u5 x5 c0 c1 c2 c3 x0 x1 x2 x3 B5 G5 F5
            generalize z.setCell ⟨P, 4, none⟩ (.int .i64 (bump s.un : Int)) = z6 at *
            have c0 := B6.out.a0.c
            have x0 := B6.out.a0.f
            have c1 := B6.out.a1.c
            have x1 := B6.out.a1.f
            have c2 := B6.out.a2.c
            have x2 := B6.out.a2.f
            have c3 := B6.out.a3.c
            have x3 := B6.out.a3.f
            go_wp2_with fail
            refine retO2 Try.results54 rfl rfl rfl B6.out.a0.has B6.out.a1.has B6.out.a2.has B6.out.a3.has ?_
            have e1 := HE.out.1
            have e2 := HE.out.2.1
            have e3 := HE.out.2.2
            rw [HTR.out, e1, e2]
            refine ⟨rfl, ?_, HKP.out, F6.out.then (S' := fun i => i = pa) (in_fr pa _ _ (in_fr _ _ _ (in_fr _ _ _ (in_fr _ _ _ (Fr.refl _ _))))) (fun i hi e => by have := HPA.out; omega)⟩
            rw [e3]
            exact G6.out.fr (S := fun i => i = pa) (in_fr pa _ _ (in_fr _ _ _ (in_fr _ _ _ (in_fr _ _ _ (Fr.refl _ _))))) haP
        · rw [hoh] at ch
          have HE : Hid (trE s (fn : Int) (tn : Int) a = 4 ∧ trN s (fn : Int) (tn : Int) a = 0 ∧ trS s (fn : Int) (tn : Int) a = ⟨L.give (L.take (L.clear s.lk) fn) fn, s.bal, s.un⟩) := by
            have hp := pair_hi (st := L.clear s.lk) hf4 ht4 hne (by rw [el]; exact hol) (by rw [eh]; exact hoh)
            rw [el] at hp
            have h1 : trE s (fn : Int) (tn : Int) a = 4 := by unfold trE prE; rw [if_neg (fun h => h HC.out), hp, if_pos (by simp)]
            refine ⟨h1, ?_, ?_⟩
            · unfold trN; rw [if_neg (by rw [h1]; decide)]
            · unfold trS prE prS; rw [if_neg (fun h => h HC.out), hp, if_pos (by simp)]
          have HKO := hid ((kept_clear s.lk).trans (kept_one (st := L.clear s.lk) (n := fn) hol))
          clear hol hoh
          go_wp2_with fail
          refine (ev2_any 65 82 (by omega) (by omega) w2).mono ?_
          rintro e w3 ⟨rfl, f3⟩
          have B3 := hid (B2.out.fr f3 (fun h => h))
          have G3 := hid (G2.out.fr f3 (fun h => h))
          have F3 := hid (F2.out.trans f3)
          clear f3 cl ch m0 m1 m2 c0 c1 c2 c3 x0 x1 x2 x3
          have c0 := B3.out.a0.c
          have x0 := B3.out.a0.f
          have c1 := B3.out.a1.c
          have x1 := B3.out.a1.f
          have c2 := B3.out.a2.c
          have x2 := B3.out.a2.f
          have c3 := B3.out.a3.c
          have x3 := B3.out.a3.f
          go_wp2_with fail
          refine retO2 Try.results54 rfl rfl rfl B3.out.a0.has B3.out.a1.has B3.out.a2.has B3.out.a3.has ?_
          rw [HE.out.1, HE.out.2.1, HE.out.2.2]
          have ht : (L.give (L.take (L.clear s.lk) fn) fn).tr = [65, L.dig fn, 82, L.dig fn] := one_tr (st := L.clear s.lk) (by simp [L.clear])
          rw [ht]
          refine ⟨rfl, G3.out.fr (S := fun i => i = pa) (in_fr pa _ _ (in_fr _ _ _ (in_fr _ _ _ (in_fr _ _ _ (Fr.refl _ _))))) haP, HKO.out, (F3.out.mono (fun _ _ h => h.elim)).then (S' := fun i => i = pa) (in_fr pa _ _ (in_fr _ _ _ (in_fr _ _ _ (in_fr _ _ _ (Fr.refl _ _))))) (fun i hi e => by have := HPA.out; omega)⟩
      · rw [hol] at cl
        have HE : Hid (trE s (fn : Int) (tn : Int) a = 4 ∧ trN s (fn : Int) (tn : Int) a = 0 ∧ trS s (fn : Int) (tn : Int) a = ⟨L.clear s.lk, s.bal, s.un⟩) := by
          have hp := pair_lo (st := L.clear s.lk) hf4 ht4 hne (by rw [el]; exact hol)
          have h1 : trE s (fn : Int) (tn : Int) a = 4 := by unfold trE prE; rw [if_neg (fun h => h HC.out), hp, if_pos (by simp)]
          refine ⟨h1, ?_, ?_⟩
          · unfold trN; rw [if_neg (by rw [h1]; decide)]
          · unfold trS prE prS; rw [if_neg (fun h => h HC.out), hp, if_pos (by simp)]
        clear hol
        go_wp2_with fail
        refine retO2 Try.results54 rfl rfl rfl B2.out.a0.has B2.out.a1.has B2.out.a2.has B2.out.a3.has ?_
        rw [HE.out.1, HE.out.2.1, HE.out.2.2]
        refine ⟨rfl, G2.out.fr (S := fun i => i = pa) (in_fr pa _ _ (in_fr _ _ _ (in_fr _ _ _ (in_fr _ _ _ (Fr.refl _ _))))) haP, kept_clear s.lk, (F2.out.mono (fun _ _ h => h.elim)).then (S' := fun i => i = pa) (in_fr pa _ _ (in_fr _ _ _ (in_fr _ _ _ (in_fr _ _ _ (Fr.refl _ _))))) (fun i hi e => by have := HPA.out; omega)⟩
  · have HN : Hid (trE s f t a = chk f t a ∧ trN s f t a = 0 ∧ trS s f t a = clr s) := by
      have h1 : trE s f t a = chk f t a := by unfold trE; rw [if_pos hc]
      refine ⟨h1, ?_, ?_⟩
      · unfold trN; rw [if_neg (by rw [h1]; exact hc)]
      · unfold trS; rw [if_pos hc]
    have hcb : (chk f t a != 0) = true := by simp [hc]
    clear hc
    go_wp2_with fail
    refine retO2 Try.results54 rfl rfl rfl B1.out.a0.has B1.out.a1.has B1.out.a2.has B1.out.a3.has ?_
    rw [HN.out.1, HN.out.2.1, HN.out.2.2]
    refine ⟨rfl, G1.out.fr (S := fun i => i = pa) (in_fr pa _ _ (in_fr _ _ _ (in_fr _ _ _ (in_fr _ _ _ (Fr.refl _ _))))) haP, kept_clr s, (F1.out.mono (fun _ _ h => h.elim)).then (S' := fun i => i = pa) (in_fr pa _ _ (in_fr _ _ _ (in_fr _ _ _ (in_fr _ _ _ (Fr.refl _ _))))) (fun i hi e => by have := HPA.out; omega)⟩

end Go.Proofs.Qxb6500453a
