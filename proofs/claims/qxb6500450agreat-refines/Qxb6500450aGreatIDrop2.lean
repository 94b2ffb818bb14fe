/- The index: the walk of DropGroup. -/
import Derived.Test.Qxb6500450aGreatIDrop
namespace Go.Proofs.Qxb6500450aGreat
open Go Go.RowKit
set_option maxRecDepth 100000
set_option maxHeartbeats 8000000
set_option linter.unusedSimpArgs false
set_option linter.unusedVariables false
variable {bS : Nat}

theorem idrop_any {w : World} {F : Nat → Prop} {bX : Nat} {f : DocF} {r : Int → Nat} (h : XR bS w F bX f r) (hF : ∀ i, F i → i < w.heap.size) (g : Int) :
    Calls Tryz.prog 48 #[.pointer (some ⟨bX, 0, none⟩), .int .i64 g] w fun e w' => e = .returned (.int .i64 (cnt f g : Int)) ∧ XR bS w' F bX (dropD f g) r ∧ Fr F w w' := by
  have OK := hid h.ok
  obtain ⟨bi, bb, q, FS, h⟩ := h
  have H := hid h
  have HF := hid hF
  have c0 := h.x0.c
  have HG := hid (drop_any h.st g)
  have hcn : (cnt f g : Int) ≤ 9 := by have := cnt_le f g; have := nDocs_le f; omega
  clear h hF
  go_enter Tryz.func48, Tryz.ntmps48
  go_wp2_with fail
  refine HG.out.mono ?_
  rintro e w1 ⟨rfl, st, f1⟩
  have ST := hid st
  have F1 := hid f1
  have hbX : ¬ FS bX := fun c => (H.out.ap bX c).1 rfl
  have hXS : ∀ i, XS bi bb q (hwD f) i → ¬ FS i := fun i hi c => (H.out.ap i c).2 hi
  have X1 := hid (H.out.xi.fr f1 hXS)
  have A0 := hid (H.out.x0.fr f1 hbX)
  have A1 := hid (H.out.x1.fr f1 hbX)
  have A2 := hid (H.out.x2.fr f1 hbX)
  have FF1 : Hid (Fr F w w1) := f1.mono (fun i _ c => (H.out.fs i c).1)
  have LT1 : Hid (∀ i, F i → i < w1.heap.size) := fun i hi => Nat.lt_of_lt_of_le (HF.out i hi) f1.size
  have HXS := hid hXS
  have NX := hid H.out.nx
  clear st f1 c0 HG
  by_cases hz : cnt f g = 0
  · have hzb : ((cnt f g : Int) == 0) = true := by simp [hz]
    have HE : Hid (dropD f g = f ∧ (cnt f g : Int) = 0) := ⟨drop_zero OK.out hz, by omega⟩
    rw [HE.out.1] at ST
    clear hz
    go_wp2_with fail
    go_ret
    rw [HE.out.1, HE.out.2]
    exact ⟨rfl, ⟨bi, bb, q, FS, A0.out, A1.out, A2.out, ST.out, X1.out, fun i hi => ⟨(H.out.fs i hi).1, LT1.out i (H.out.fs i hi).1⟩, H.out.fx, H.out.fi, H.out.ap⟩, FF1.out⟩
  have hzb : ((cnt f g : Int) == 0) = false := by simp; omega
  clear hz
  obtain ⟨n0, mi⟩ := X1.out.inv
  have MI := hid mi
  clear mi
  have c1 := A1.out.c
  have SUP := hid X1.out.sup
  go_wp2_with (first
    | (at_range; refine wp_range rfl rfl uInv MI.out rfl ?_; intro w2 left0 rg2 ln2 lm2 f2 z2; go_frame)
    | go_in)
  obtain ⟨rb, hrb⟩ : ∃ rb, rb = w1.heap.size := ⟨_, rfl⟩
  rw [← hrb] at rg2 z2 ⊢
  have HRB := hid hrb
  have F2 := hid f2
  have L2 : Hid (∀ k, k ∈ left0 ↔ fq (hwD f) k ≠ 0) := fun k => by
    rw [lm2 k]
    unfold im
    by_cases c : fq (hwD f) k = 0 <;> simp [c]
  have RG2 : Hid (Ranges sk w2 bi rb (im q (Dm f g left0)) left0) := by
    unfold Hid
    rw [Dm_start L2.out SUP.out]
    exact rg2
  have SET2 : Hid (∀ y, fq (Dm f g left0) y ≠ 0 → MapF ik w2 (q y) (sm (Dm f g left0 y)) (fq (Dm f g left0) y)) := by
    unfold Hid
    rw [Dm_start L2.out SUP.out]
    exact fun y hy => (X1.out.set y hy).fr f2 (fun h => h)
  have Z2 := hid z2
  clear hrb ln2 lm2 c1 rg2 z2 f2 MI
  go_loopw [] (fun wr => ∃ left, Ranges sk wr bi rb (im q (Dm f g left)) left ∧ (∀ y, fq (Dm f g left) y ≠ 0 → MapF ik wr (q y) (sm (Dm f g left y)) (fq (Dm f g left) y)) ∧ (∀ y ∈ left, fq (hwD f) y ≠ 0) ∧ Fr (fun i => i = rb ∨ i = bi ∨ ∃ y, fq (hwD f) y ≠ 0 ∧ i = q y) w2 wr) (fun wr => wr.rangeLeft bi rb)
  case atStart => exact ⟨left0, RG2.out, SET2.out, fun y hy => (L2.out y).1 hy, Fr.refl _ _⟩
  case round =>
    clear RG2 SET2
    obtain ⟨left, rg, hset, hle, fr⟩ := hrel
    have RG := hid rg
    have SET := hid hset
    have LE := hid hle
    have FR := hid fr
    clear hset hle fr
    have NR : Hid (∀ i, F i → i ≠ rb) := fun i hi e => by have := LT1.out i hi; have := HRB.out; omega
    have nS : Hid (∀ i, FS i → ¬ (i = rb ∨ i = bi ∨ ∃ y, fq (hwD f) y ≠ 0 ∧ i = q y)) := fun i hi c => c.elim (NR.out i (H.out.fs i hi).1) (fun c => HXS.out i (c.elim .inl (fun c => .inr (.inr c))) hi)
    have nX : Hid (¬ (bX = rb ∨ bX = bi ∨ ∃ y, fq (hwD f) y ≠ 0 ∧ bX = q y)) := fun c => c.elim (NR.out bX H.out.fx) (fun c => NX.out (c.elim .inl (fun c => .inr (.inr c))))
    have nB : Hid (¬ (bb = rb ∨ bb = bi ∨ ∃ y, fq (hwD f) y ≠ 0 ∧ bb = q y)) := by
      rintro (c | c | ⟨y, hy, c⟩)
      · exact NR.out bb (H.out.fi bb (.inr (.inl rfl))) c
      · exact H.out.xi.nb c.symm
      · exact (H.out.xi.ni y hy).2 c.symm
    rcases rg.next (P := Tryz.prog) 0 with ⟨hnil, hrun⟩ | ⟨k, vv, w3, hk, hv, hrun, hen, rg3, f3, z3⟩
    · clear rg
      subst hnil
      have SX : Hid (SR wr FS bS (dropD f g) r) := (ST.out.frw F2.out (fun _ _ h => h)).frw FR.out nS.out
      have B0 := hid ((A0.out.fr F2.out (fun h => h)).fr FR.out nX.out)
      have B1 := hid ((A1.out.fr F2.out (fun h => h)).fr FR.out nX.out)
      have B2 := hid ((A2.out.fr F2.out (fun h => h)).fr FR.out nX.out)
      obtain ⟨m0, mt⟩ := X1.out.tal
      have MT := hid ((mt.fr F2.out (fun h => h)).fr FR.out nB.out)
      obtain ⟨ni, MI⟩ := RG.out.map
      rw [Dm_nil] at MI SET
      have MIX := hid MI
      have LTR : Hid (∀ i, F i → i < wr.heap.size) := fun i hi => Nat.lt_of_lt_of_le (Nat.lt_of_lt_of_le (LT1.out i hi) F2.out.size) FR.out.size
      have FFR : Hid (Fr F w wr) := by
        refine ((FF1.out.trans (F2.out.mono (fun _ _ h => h.elim)))).then FR.out (fun i hi c => ?_)
        rcases c with c | c | ⟨y, hy, c⟩
        · have := HRB.out; have := FF1.out.size; omega
        · exact H.out.fi i (.inl c)
        · exact H.out.fi i (.inr (.inr ⟨y, hy, c⟩))
      clear mt MI RG
      have c2 := B2.out.c
      go_wp2_with (first
        | (at_range; refine wp_range rfl rfl uBy MT.out rfl ?_; intro w5 left5 rg5 ln5 lm5 f5 z5; go_frame)
        | go_in)
      obtain ⟨rc, hrc⟩ : ∃ rc, rc = wr.heap.size := ⟨_, rfl⟩
      rw [← hrc] at rg5 z5 ⊢
      have HRC := hid hrc
      have F5 := hid f5
      have L5 : Hid (∀ k, k ∈ left5 ↔ tlK f k ≠ 0) := fun k => by
        rw [lm5 k]
        unfold cmK
        by_cases c : tlK f k = 0 <;> simp [c]
      have RG5 : Hid (Ranges kk w5 bb rc (cmK (Tl f g left5)) left5) := by
        unfold Hid
        rw [Tl_start L5.out]
        exact rg5
      clear hrc ln5 lm5 rg5 z5 f5 c2 MT hrun
      obtain ⟨wx, hwx⟩ : ∃ wx, wx = wr := ⟨_, rfl⟩
      rw [← hwx] at SX B0 B1 B2 SET MIX LTR FFR HRC F5
      clear FR hwx
      go_loopw [] (fun wz => ∃ left, Ranges kk wz bb rc (cmK (Tl f g left)) left ∧ Fr (fun i => i = rc ∨ i = bb) w5 wz) (fun wz => wz.rangeLeft bb rc)
      case atStart => exact ⟨left5, RG5.out, Fr.refl _ _⟩
      case round =>
        clear RG5
        obtain ⟨lz, rgz, fz⟩ := hrel
        have RZ := hid rgz
        have FZ := hid fz
        clear fz
        have NC : Hid (∀ i, F i → i ≠ rc) := fun i hi e => by have := LTR.out i hi; have := HRC.out; omega
        have nbX : Hid (¬ (bX = rc ∨ bX = bb)) := fun c => c.elim (NC.out bX H.out.fx) (fun c => NX.out (.inr (.inl c)))
        have nFS : Hid (∀ i, FS i → ¬ (i = rc ∨ i = bb)) := fun i hi c => c.elim (NC.out i (H.out.fs i hi).1) (fun c => HXS.out i (.inr (.inl c)) hi)
        rcases rgz.next (P := Tryz.prog) 0 with ⟨hnil, hrun⟩ | ⟨key, vv, w6, hk, hv, hrun, hen, rg6, f6, z6⟩
        · clear rgz
          subst hnil
          obtain ⟨nt, MTZ⟩ := RZ.out.map
          rw [Tl_nil] at MTZ
          have MTX := hid MTZ
          clear MTZ RZ
          go_wp2_with fail
          go_ret
          have nbi : ¬ (bi = rc ∨ bi = bb) := fun c => c.elim (NC.out bi (H.out.fi bi (.inl rfl))) H.out.xi.nb
          have sub : ∀ y, fq (hwD (dropD f g)) y ≠ 0 → fq (hwD f) y ≠ 0 := fun y hy h0 => hy (by
            unfold fq at h0 ⊢
            rw [List.countP_eq_zero] at h0 ⊢
            intro i hi c
            rw [hwD_drop] at c
            exact h0 i hi (by simp at c; exact c.1))
          have subX : ∀ i, XS bi bb q (hwD (dropD f g)) i → XS bi bb q (hwD f) i := by
            rintro i (c | c | ⟨y, hy, c⟩)
            · exact .inl c
            · exact .inr (.inl c)
            · exact .inr (.inr ⟨y, sub y hy, c⟩)
          have nq : ∀ y, fq (hwD f) y ≠ 0 → ¬ (q y = rc ∨ q y = bb) := fun y hy c => c.elim (NC.out _ (H.out.fi _ (.inr (.inr ⟨y, hy, rfl⟩)))) (H.out.xi.ni y hy).2
          refine ⟨rfl, ⟨bi, bb, q, FS, (B0.out.fr F5.out (fun h => h)).fr FZ.out nbX.out, (B1.out.fr F5.out (fun h => h)).fr FZ.out nbX.out, (B2.out.fr F5.out (fun h => h)).fr FZ.out nbX.out, (SX.out.frw F5.out (fun _ _ h => h)).frw FZ.out nFS.out, ⟨⟨_, (MIX.out.fr F5.out (fun h => h)).fr FZ.out nbi⟩, ⟨_, MTX.out⟩, fun y hy => ((SET.out y hy).fr F5.out (fun h => h)).fr FZ.out (nq y (sub y hy)), fun y z hy hz e => H.out.xi.inj y z (sub y hy) (sub z hz) e, H.out.xi.nb, fun y hy => H.out.xi.ni y (sub y hy), fun y i hd => by rw [hwD_drop] at hd; simp at hd; exact H.out.xi.sup y i hd.1⟩, fun i hi => ⟨(H.out.fs i hi).1, Nat.lt_of_lt_of_le (Nat.lt_of_lt_of_le (LTR.out i (H.out.fs i hi).1) F5.out.size) FZ.out.size⟩, H.out.fx, fun i hi => H.out.fi i (subX i hi), fun i hi => ⟨(H.out.ap i hi).1, fun c => (H.out.ap i hi).2 (subX i c)⟩⟩, ?_⟩
          refine (FFR.out.trans (F5.out.mono (fun _ _ h => h.elim))).then FZ.out (fun i hi c => ?_)
          rcases c with c | c
          · have := HRC.out; have := FFR.out.size; omega
          · exact H.out.fi i (.inr (.inl c))
        · simp only [kk] at hrun hen
          have RG6 := hid rg6
          have F6 : Hid (Fr (fun i => i = rc ∨ i = bb) w5 w6) := FZ.out.trans (f6.mono (fun i _ h => Or.inl h))
          have HK := hid hk
          have hrl := rgz.left_eq
          have HRL := hid hrl
          clear rgz rg6 f6 z6 hv hk hrl
          have X26 := hid ((B2.out.fr F5.out (fun h => h)).fr F6.out nbX.out)
          go_upto_region 21 with fail
          have FA := hid ((Fr.refl (fun _ => False) w6).alloc (.cells #[.int .i64 key.1, .string key.2] 106))
          have K0 := hid (At.new w6 #[.int .i64 key.1, .string key.2] 106 (o := 0) rfl)
          have K1 := hid (At.new w6 #[.int .i64 key.1, .string key.2] 106 (o := 1) rfl)
          have RG7 := hid (RG6.out.fr FA.out (fun h => h) (fun h => h))
          have X27 := hid (X26.out.fr FA.out (fun h => h))
          have F7 := hid (F6.out.trans (FA.out.mono (fun _ _ h => h.elim)))
          clear hrun hen RG6 F6 X26 FA
          generalize w6.alloc (.cells #[.int .i64 key.1, .string key.2] 106) = w7 at *
          generalize w6.heap.size = pK at *
          have k0 : w7.cell? ⟨pK, 0, none⟩ = some (.int .i64 key.1) := K0.out.c
          have k1 : w7.cell? ⟨pK, 1, none⟩ = some (.string key.2) := K1.out.c
          have c2 := X27.out.c
          by_cases hkg : key.1 = g
          · have hkb : (key.1 == g) = true := beq_iff_eq.2 hkg
            obtain ⟨w8, hr8, rg8, f8, s8⟩ := (RG7.out.fr ((Fr.refl (fun _ => False) w7).drew) (fun h => h) (fun h => h)).delete (ty := 0) (kt' := 106) kKey uBy key
            have hr8' : (Builtin.delete_ #[78, 106] 0 #[.map (some bb), .agg #[.int .i64 key.1, .string key.2]]).run Tryz.prog w7.drew = .ok (.tuple #[]) w8 := hr8
            rw [Tl_step hkg] at rg8
            have e8 : (lz.filter (· ≠ key)).filter (· ≠ key) = lz.filter (· ≠ key) := by rw [List.filter_filter]; congr 1; funext y; simp
            rw [e8] at rg8
            have e9 : (lz.filter (· ≠ key)).filter (· ≠ key) = lz.filter (· ≠ key) := e8
            have RG8 : Hid (Ranges kk w8 bb rc (cmK (Tl f g (lz.filter (· ≠ key)))) (lz.filter (· ≠ key))) := by
              have : cmK (Tl f g (lz.filter (· ≠ key))) = cmK (Tl f g (lz.filter (· ≠ key))) := rfl
              exact rg8
            have F8 : Hid (Fr (fun i => i = rc ∨ i = bb) w5 w8) := (F7.out.trans ((Fr.refl (fun i => i = rc ∨ i = bb) w7).drew)).trans (f8.mono (fun i _ h => Or.inr h))
            clear hr8 rg8 f8 s8 e8 e9 hkg
            go_upto_region 22 with fail
            go_region
            all_goals go_wp2_with fail
            all_goals exact ⟨⟨lz.filter (· ≠ key), RG8.out, F8.out⟩, by rw [RG8.out.left_eq, HRL.out]; exact List.length_filter_lt_length_iff_exists.2 ⟨key, HK.out, by simp⟩⟩
          · have hkb : (key.1 == g) = false := beq_eq_false_iff_ne.2 hkg
            have RG8 : Hid (Ranges kk w7 bb rc (cmK (Tl f g (lz.filter (· ≠ key)))) (lz.filter (· ≠ key))) := by
              unfold Hid
              rw [Tl_keep hkg]
              exact RG7.out
            clear hkg
            go_wp2_with fail
            exact ⟨⟨lz.filter (· ≠ key), RG8.out, F7.out⟩, by rw [RG8.out.left_eq, HRL.out]; exact List.length_filter_lt_length_iff_exists.2 ⟨key, HK.out, by simp⟩⟩
    · have FRX := FR
      have SETX := SET
      have hfk : fq (hwD f) k ≠ 0 := LE.out k hk
      have eD : Dm f g left k = hwD f k := by funext i; unfold Dm; rw [if_pos hk]
      have hfk' : fq (Dm f g left) k = fq (hwD f) k := by unfold fq; rw [eD]
      have hvv : vv = .agg #[.map (some (q k)), .int .i64 (fq (hwD f) k : Int)] := by
        unfold im at hv
        rw [hfk', if_neg hfk] at hv
        cases hv
        rfl
      subst hvv
      have MS := SET.out k (by rw [hfk']; exact hfk)
      rw [eD, hfk'] at MS
      have hqF : F (q k) := H.out.fi _ (.inr (.inr ⟨k, hfk, rfl⟩))
      have hbiF : F bi := H.out.fi _ (.inl rfl)
      have MS3 := hid (MS.fr f3 (NR.out _ hqF))
      have RG3 := hid rg3
      have F3 := hid f3
      have HK := hid hk
      have HFK := hid hfk
      have HRL := hid rg.left_eq
      simp only [sk] at hrun hen
      clear rg rg3 f3 z3 hv hk hfk hfk' eD MS
      go_upto_region 8 with fail
      have FA := hid ((Fr.refl (fun _ => False) w3).alloc (.cells #[.map (some (q k)), .int .i64 (fq (hwD f) k : Int)] 117))
      have P0 := hid (At.new w3 #[.map (some (q k)), .int .i64 (fq (hwD f) k : Int)] 117 (o := 0) rfl)
      have P1 := hid (At.new w3 #[.map (some (q k)), .int .i64 (fq (hwD f) k : Int)] 117 (o := 1) rfl)
      have MS4 := hid (MS3.out.fr FA.out (fun h => h))
      have RG4 := hid (RG3.out.fr FA.out (fun h => h) (fun h => h))
      have LP : Hid (∀ i, F i → i ≠ w3.heap.size) := fun i hi e => by have := LT1.out i hi; have := F2.out.size; have := FR.out.size; have := F3.out.size; omega
      have HRP : Hid (rb ≠ w3.heap.size) := by have := RG3.out.lt.2; unfold Hid; omega
      have HW2 : Hid (w2.heap.size ≤ w3.heap.size) := Nat.le_trans FR.out.size F3.out.size
      clear hrun hen RG3 MS3
      generalize w3.alloc (.cells #[.map (some (q k)), .int .i64 (fq (hwD f) k : Int)] 117) = w4 at *
      generalize w3.heap.size = pP at *
      obtain ⟨bk, hbk⟩ : ∃ bk, bk = q k := ⟨_, rfl⟩
      rw [← hbk] at MS4 P0 hqF ⊢
      have HBK := hid hbk
      clear hbk
      have y0 : w4.cell? ⟨pP, 0, none⟩ = some (.map (some bk)) := P0.out.c
      have y1 : w4.cell? ⟨pP, 1, none⟩ = some (.int .i64 (fq (hwD f) k : Int)) := P1.out.c
      go_wp2_with (first
        | (at_range; refine wp_range rfl rfl uSet MS4.out rfl ?_; intro w5 li0 rg5 ln5 lm5 f5 z5; go_frame)
        | go_in)
      obtain ⟨ri, hri⟩ : ∃ ri, ri = w4.heap.size := ⟨_, rfl⟩
      rw [← hri] at rg5 z5 ⊢
      have HRI := hid hri
      have F5 := hid f5
      have L5 : Hid (∀ i, i ∈ li0 ↔ hwD f k i = true) := fun i => by
        rw [lm5 i]
        unfold sm
        by_cases c : hwD f k i = true <;> simp [c]
      have RG5 : Hid (Ranges ik w5 bk ri (sm (dcur f g k li0)) li0) := by
        unfold Hid
        rw [dcur_start L5.out]
        exact rg5
      have Q0 := hid (P0.out.fr f5 (fun h => h))
      have Q1 : Hid (At w5 pP 1 (.int .i64 (nine.countP (dcur f g k li0) : Int))) := by
        unfold Hid
        rw [dcur_start L5.out]
        exact P1.out.fr f5 (fun h => h)
      have RGO := hid (RG4.out.fr f5 (fun h => h) (fun h => h))
      have hpr : pP ≠ ri := by have := P0.out.lt; omega
      have NRI : Hid (∀ i, F i → i ≠ ri) := fun i hi e => by have := LT1.out i hi; have := F2.out.size; have := FR.out.size; have := F3.out.size; have := FA.out.size; omega
      have hrr : rb ≠ ri := by have := RG4.out.lt.2; omega
      clear hri ln5 lm5 rg5 z5 f5 y0 y1 RG4 MS4
      go_loopw [] (fun wi => ∃ li, Ranges ik wi bk ri (sm (dcur f g k li)) li ∧ At wi pP 0 (.map (some bk)) ∧ At wi pP 1 (.int .i64 (nine.countP (dcur f g k li) : Int)) ∧ (∀ i ∈ li, hwD f k i = true) ∧ Fr (fun j => j = ri ∨ j = bk ∨ j = pP) w5 wi) (fun wi => wi.rangeLeft bk ri)
      case atStart => exact ⟨li0, RG5.out, Q0.out, Q1.out, fun i hi => (L5.out i).1 hi, Fr.refl _ _⟩
      case round =>
        clear RG5 Q0 Q1
        obtain ⟨li, rgi, q0, q1, hli, fi⟩ := hrel
        have RI := hid rgi
        have Q0 := hid q0
        have Q1 := hid q1
        have HLI := hid hli
        have FI := hid fi
        clear q0 q1 hli fi
        have hcb : (nine.countP (dcur f g k li) : Int) ≤ 9 := by have : nine.countP (dcur f g k li) ≤ 9 := List.countP_le_length; omega
        have nF : Hid (∀ i, F i → i ≠ bk → ¬ (i = ri ∨ i = bk ∨ i = pP)) := fun i hi hne c => by
          rcases c with c | c | c
          · exact NRI.out i hi c
          · exact hne c
          · exact LP.out i hi c
        have hkF : Hid (∀ i, FS i → i ≠ bk) := fun i hi e => HXS.out i (.inr (.inr ⟨k, HFK.out, by rw [e, HBK.out]⟩)) hi
        have hXk : Hid (bX ≠ bk) := fun e => NX.out (.inr (.inr ⟨k, HFK.out, by rw [e, HBK.out]⟩))
        rcases rgi.next (P := Tryz.prog) 0 with ⟨hnil, hrun⟩ | ⟨id, vv, w6, hk6, hv6, hrun, hen, rg6, f6, z6⟩
        · clear rgi
          subst hnil
          rw [dcur_nil] at RI Q1
          obtain ⟨nk, mk⟩ := RI.out.map
          have ek : nk = fq (hwD (dropD f g)) k := mk.cntS (fun i hd => by rw [hwD_drop] at hd; simp at hd; exact SUP.out k i hd.1)
          rw [ek] at mk
          have MK := hid mk
          have hbibk : bi ≠ bk := fun e => (H.out.xi.ni k HFK.out).1 (by rw [← HBK.out, e])
          have nbi : ¬ (bi = ri ∨ bi = bk ∨ bi = pP) := nF.out bi hbiF hbibk
          have nrb : ¬ (rb = ri ∨ rb = bk ∨ rb = pP) := by
            rintro (c | c | c)
            · exact hrr c
            · exact NR.out bk hqF c.symm
            · exact HRP.out c
          have RGE := hid (RGO.out.fr FI.out nbi nrb)
          have F1E : Hid (Fr (fun i => i = rb ∨ i = bi ∨ ∃ y, fq (hwD f) y ≠ 0 ∧ i = q y) w2 wr) := by
            have a1 : Fr (fun i => i = rb ∨ i = bi ∨ ∃ y, fq (hwD f) y ≠ 0 ∧ i = q y) w2 w3 := FR.out.trans (F3.out.mono (fun i _ h => Or.inl h))
            refine ((a1.trans (FA.out.mono (fun _ _ h => h.elim))).trans (F5.out.mono (fun _ _ h => h.elim))).then FI.out (fun i hi c => ?_)
            rcases c with c | c | c
            · have := HRI.out; have := FA.out.size; have := HW2.out; have := P0.out.lt; omega
            · exact .inr (.inr ⟨k, HFK.out, by rw [c, HBK.out]⟩)
            · have := HW2.out; omega
          have XE1 := hid (((((A1.out.fr F2.out (fun h => h)).fr FRX.out nX.out).fr F3.out (NR.out bX H.out.fx)).fr FA.out (fun h => h)).fr F5.out (fun h => h) |>.fr FI.out (nF.out bX H.out.fx hXk.out))
          have SETE : Hid (∀ y, fq (Dm f g (left.filter (· ≠ k))) y ≠ 0 → MapF ik wr (q y) (sm (Dm f g (left.filter (· ≠ k)) y)) (fq (Dm f g (left.filter (· ≠ k))) y)) := by
            intro y hy
            by_cases c : y = k
            · subst c
              have e1 : fq (Dm f g (left.filter (· ≠ y))) y = fq (hwD (dropD f g)) y := by unfold fq; rw [Dm_same]
              rw [e1, Dm_same, ← HBK.out]
              exact MK.out
            · have e1 : fq (Dm f g (left.filter (· ≠ k))) y = fq (Dm f g left) y := by unfold fq; rw [Dm_other c]
              rw [e1] at hy ⊢
              rw [Dm_other c]
              have hyf : fq (hwD f) y ≠ 0 := by
                intro h0
                apply hy
                unfold fq at h0 ⊢
                rw [List.countP_eq_zero] at h0 ⊢
                intro i hi hd
                apply h0 i hi
                unfold Dm at hd
                split at hd
                · exact hd
                · rw [hwD_drop] at hd; simp at hd; exact hd.1
              have hyF : F (q y) := H.out.fi _ (.inr (.inr ⟨y, hyf, rfl⟩))
              have hyk : q y ≠ bk := fun e => c (H.out.xi.inj y k hyf HFK.out (by rw [e, HBK.out]))
              exact ((((SETX.out y hy).fr F3.out (NR.out _ hyF)).fr FA.out (fun h => h)).fr F5.out (fun h => h)).fr FI.out (nF.out _ hyF hyk)
          have y1 := Q1.out.c
          have y0 := Q0.out.c
          have c1 := XE1.out.c
          have e2 : (left.filter (· ≠ k)).filter (· ≠ k) = left.filter (· ≠ k) := by rw [List.filter_filter]; congr 1; funext y; simp
          have HE2 := hid e2
          have LEE : Hid (∀ y ∈ left.filter (· ≠ k), fq (hwD f) y ≠ 0) := fun y hy => LE.out y (List.mem_filter.1 hy).1
          clear e2 RI mk ek
          have hq1 : nine.countP (hwD (dropD f g) k) = fq (hwD (dropD f g)) k := rfl
          rw [hq1] at y1
          by_cases hz0 : fq (hwD (dropD f g)) k = 0
          · have hzb : ((fq (hwD (dropD f g)) k : Int) == 0) = true := by simp [hz0]
            have HIM : Hid (im q (Dm f g (left.filter (· ≠ k))) = updF (im q (Dm f g left)) k none) := by
              unfold Hid
              rw [im_step, if_pos hz0]
            clear hz0
            go_wp2_with (first
              | (at_delete; refine wp_delR rfl rfl kStr uInv RGE.out rfl (k := k) rfl ?_; intro w9 rg9 f9 s9)
              | go_in)
            rw [← HIM.out, HE2.out] at rg9
            have nq9 : ∀ y, fq (hwD f) y ≠ 0 → ¬ q y = bi := fun y hy => (H.out.xi.ni y hy).1
            refine ⟨⟨left.filter (· ≠ k), rg9, fun y hy => (SETE.out y hy).fr f9 ?_, LEE.out, F1E.out.trans (f9.mono (fun i _ h => .inr (.inl h)))⟩, ?_⟩
            · refine nq9 y ?_
              intro h0
              apply hy
              unfold fq at h0 ⊢
              rw [List.countP_eq_zero] at h0 ⊢
              intro i hi hd
              apply h0 i hi
              unfold Dm at hd
              split at hd
              · exact hd
              · rw [hwD_drop] at hd; simp at hd; exact hd.1
            · rw [rg9.left_eq, HRL.out]; exact filter_ltB HK.out
          · have hzb : ((fq (hwD (dropD f g)) k : Int) == 0) = false := by simp; omega
            have HIM : Hid (im q (Dm f g (left.filter (· ≠ k))) = updF (im q (Dm f g left)) k (some (.agg #[.map (some bk), .int .i64 (fq (hwD (dropD f g)) k : Int)]))) := by
              unfold Hid
              rw [im_step, if_neg hz0, HBK.out]
            have hsm : (im q (Dm f g left) k).isSome = true := by
              have e1 : fq (Dm f g left) k = fq (hwD f) k := by unfold fq; congr 1; funext i; unfold Dm; rw [if_pos HK.out]
              unfold im
              rw [e1, if_neg HFK.out]
              rfl
            obtain ⟨w9, hr9, rg9, f9, s9⟩ := (RGE.out.fr ((Fr.refl (fun _ => False) wr).drew) (fun h => h) (fun h => h)).update kStr uInv k (.agg #[.map (some bk), .int .i64 (fq (hwD (dropD f g)) k : Int)]) hsm
            have hr9' : (Instr.mapUpdate 77 (.map (some bi)) (.string k) (.agg #[.map (some bk), .int .i64 (fq (hwD (dropD f g)) k : Int)])).run Tryz.prog wr.drew = .ok () w9 := hr9
            rw [← HIM.out] at rg9
            have RG9 := hid rg9
            have F9 : Hid (Fr (fun i => i = bi) wr w9) := ((Fr.refl (fun i => i = bi) wr).drew).trans f9
            clear hr9 rg9 f9 s9 hz0 hsm
            go_upto_region 17 with fail
            go_region
            all_goals go_wp2_with fail
            all_goals (have nq9 : ∀ y, fq (hwD f) y ≠ 0 → ¬ q y = bi := fun y hy => (H.out.xi.ni y hy).1)
            all_goals refine ⟨⟨left.filter (· ≠ k), RG9.out, fun y hy => (SETE.out y hy).fr F9.out ?_, LEE.out, F1E.out.trans (F9.out.mono (fun i _ h => .inr (.inl h)))⟩, ?_⟩
            · refine nq9 y ?_
              intro h0
              apply hy
              unfold fq at h0 ⊢
              rw [List.countP_eq_zero] at h0 ⊢
              intro i hi hd
              apply h0 i hi
              unfold Dm at hd
              split at hd
              · exact hd
              · rw [hwD_drop] at hd; simp at hd; exact hd.1
            · rw [RG9.out.left_eq, HRL.out]; exact filter_ltB HK.out
        · have hid1 := SUP.out k id (HLI.out id hk6)
          have RG6 := hid rg6
          have HK6 := hid hk6
          have HRI6 := hid rgi.left_eq
          have hbkri : bk ≠ ri := fun e => rgi.ne e.symm
          have Q06 := hid (Q0.out.fr f6 hpr)
          have Q16 := hid (Q1.out.fr f6 hpr)
          have F6 : Hid (Fr (fun j => j = ri ∨ j = bk ∨ j = pP) w5 w6) := FI.out.trans (f6.mono (fun i _ h => Or.inl h))
          have S6 : Hid (SR w6 FS bS (dropD f g) r) := ((((((ST.out.frw F2.out (fun _ _ h => h)).frw FRX.out nS.out).frw F3.out (fun i hi => NR.out i (H.out.fs i hi).1)).frw FA.out (fun _ _ h => h)).frw F5.out (fun _ _ h => h)).frw FI.out (fun i hi => nF.out i (H.out.fs i hi).1 (hkF.out i hi))).frw f6 (fun i hi => NRI.out i (H.out.fs i hi).1)
          have X06 := hid (((((((A0.out.fr F2.out (fun h => h)).fr FRX.out nX.out).fr F3.out (NR.out bX H.out.fx)).fr FA.out (fun h => h)).fr F5.out (fun h => h)).fr FI.out (nF.out bX H.out.fx hXk.out)).fr f6 (NRI.out bX H.out.fx))
          simp only [ik] at hrun hen
          clear rgi rg6 f6 z6 hv6 hk6
          have c0 := X06.out.c
          have HG := hid (get_any S6.out id)
          go_wp2_with fail
          refine HG.out.mono ?_
          rintro e w7 ⟨rfl, f7⟩
          have RG7 := hid (RG6.out.fr f7 (fun h => h) (fun h => h))
          have Q07 := hid (Q06.out.fr f7 (fun h => h))
          have Q17 := hid (Q16.out.fr f7 (fun h => h))
          have F7 := hid (F6.out.trans (f7.mono (fun _ _ h => h.elim)))
          have hgood : goodB id = true := by simp [goodB]; exact hid1
          clear f7 hrun hen c0 RG6 Q06 Q16 F6 S6 X06 HG
          simp only [docV]
          obtain hno | ⟨d, hsm⟩ := opt (dropD f g id)
          · have hge : ((getP (dropD f g) id).e != 0) = true := by simp [getP, hgood, hno, noGot]
            have hcn := dcur_cnt hid1.1 hid1.2 hno HK6.out (HLI.out id HK6.out)
            have HCN := hid hcn
            have hc1 : (1 : Int) ≤ (nine.countP (dcur f g k li) : Int) := by omega
            have HNO := hid hno
            have y0 := Q07.out.c
            clear hno hcn
            go_upto_region 14 with (first
              | (at_delete; refine wp_delR rfl rfl kInt uSet RG7.out rfl (k := id) rfl ?_; intro w8 rg8 f8 s8)
              | go_in)
            rw [dcur_del HNO.out] at rg8
            have e8 : (li.filter (· ≠ id)).filter (· ≠ id) = li.filter (· ≠ id) := by rw [List.filter_filter]; congr 1; funext y; simp
            rw [e8] at rg8
            have hbkp : bk ≠ pP := fun e => LP.out bk hqF e
            have RG8 := hid rg8
            have Q08 := hid (Q07.out.fr f8 hbkp.symm)
            have Q18 := hid (Q17.out.fr f8 hbkp.symm)
            have F8 : Hid (Fr (fun j => j = ri ∨ j = bk ∨ j = pP) w5 w8) := F7.out.trans (f8.mono (fun i _ h => Or.inr (Or.inl h)))
            clear rg8 f8 s8 e8 y0
            have y1 := Q18.out.c
            have z1 := Q18.out.f
            go_wp2_with fail
            have FS9 : Fr (fun i => i = pP) w8 (w8.setCell ⟨pP, 1, none⟩ (.int .i64 ((nine.countP (dcur f g k li) : Int) - 1))) := (Fr.refl (fun i => i = pP) w8).setCell (p := ⟨pP, 1, none⟩) (fun _ => rfl) _
            have en : ((nine.countP (dcur f g k li) : Int) - 1) = (nine.countP (dcur f g k (li.filter (· ≠ id))) : Int) := by have := HCN.out; omega
            have RG9 := RG8.out.fr FS9 hbkp (fun e => hpr e.symm)
            refine ⟨⟨li.filter (· ≠ id), RG9, Q08.out.other (by omega) _, by rw [← en]; exact Q18.out.same _, fun i hi => HLI.out i (List.mem_filter.1 hi).1, F8.out.trans (FS9.mono (fun i _ h => Or.inr (Or.inr h)))⟩, by rw [RG9.left_eq, HRI6.out]; exact filter_lt HK6.out⟩
          · have hge : ((getP (dropD f g) id).e != 0) = false := by simp [getP, hgood, hsm]
            have hss : (dropD f g id).isSome = true := by rw [hsm]; rfl
            have HDK : Hid (dcur f g k (li.filter (· ≠ id)) = dcur f g k li) := dcur_keep hss
            clear hsm hss
            go_wp2_with fail
            refine ⟨⟨li.filter (· ≠ id), by rw [HDK.out]; exact RG7.out, Q07.out, by rw [HDK.out]; exact Q17.out, fun i hi => HLI.out i (List.mem_filter.1 hi).1, F7.out⟩, by rw [RG7.out.left_eq, HRI6.out]; exact filter_lt HK6.out⟩

end Go.Proofs.Qxb6500450aGreat
