/- The index: Check. -/
import Derived.Test.Qxb6500449aICheckP
namespace Go.Proofs.Qxb6500449a
open Go Go.RowKit
set_option maxRecDepth 100000
set_option maxHeartbeats 8000000
set_option linter.unusedSimpArgs false
set_option linter.unusedVariables false
variable {bS : Nat}

theorem pairs_le {f : DocF} (ok : OkF f) (l : List Int) : pairsOf f l ≤ 13 * l.length := by
  refine sumL_le _ 13 (fun i => ?_) l
  have h1 := splitL_len (txt f i)
  have h2 := txt_size ok i
  omega

theorem icheck_any {w : World} {F : Nat → Prop} {bX : Nat} {f : DocF} {r : Int → Nat} (h : XR bS w F bX f r) :
    Calls Try.prog 43 #[.pointer (some ⟨bX, 0, none⟩)] w fun e w' => e = .returned (.bool true) ∧ Fr (fun _ => False) w w' := by
  have OK := hid h.ok
  obtain ⟨bi, bb, q, FS, h⟩ := h.bound
  have H := hid h
  have c0 := h.x0.c
  have c1 := h.x1.c
  have c2 := h.x2.c
  have hn1 : ∀ W, (binOp BinOp.eql 54 (.map (some bi)) (.map none)).run Try.prog W = .ok (.bool false) W := fun W => by kernel_rfl
  have hn2 : ∀ W, (binOp BinOp.eql 55 (.map (some bb)) (.map none)).run Try.prog W = .ok (.bool false) W := fun W => by kernel_rfl
  obtain ⟨n0, mi⟩ := h.xi.inv
  have MI := hid mi
  clear h mi
  go_enter Try.func43, Try.ntmps43
  go_wp2_with (first
    | (at_range; refine wp_range rfl rfl uInv MI.out rfl ?_; intro w2 left0 rg2 ln2 lm2 f2 z2; go_frame)
    | go_in)
  obtain ⟨rb, hrb⟩ : ∃ rb, rb = w.heap.size := ⟨_, rfl⟩
  rw [← hrb] at rg2 z2 ⊢
  have HRB := hid hrb
  have L2 : Hid (∀ k, k ∈ left0 ↔ fq (hwD f) k ≠ 0) := fun k => by
    rw [lm2 k]
    unfold im
    by_cases c : fq (hwD f) k = 0 <;> simp [c]
  have RG2 := hid rg2
  have F2 := hid f2
  clear hrb ln2 lm2 rg2 f2 z2 c0 c1 c2 hn1 hn2
  have heqm : ∀ b W, (binOp BinOp.eql 63 (.map (some b)) (.map none)).run Try.prog W = .ok (.bool false) W := fun b W => by kernel_rfl
  go_loopw [3] (fun t wr => ∃ left S, Ranges sk wr bi rb (im q (hwD f)) left ∧ S.Nodup ∧ (∀ y, y ∈ S ↔ fq (hwD f) y ≠ 0 ∧ y ∉ left) ∧ t = .int .i64 (sumL (fq (hwD f)) S : Int) ∧ Fr (fun _ => False) w wr) (fun _ wr => wr.rangeLeft bi rb)
  case atStart => exact ⟨left0, [], RG2.out, List.nodup_nil, fun k => by have := L2.out k; simp; exact fun h => this.2 h, rfl, F2.out⟩
  case round =>
    clear RG2 F2
    obtain ⟨left, S, rg, hnd, hmem, rfl, fr⟩ := hrel
    have RG := hid rg
    have ND := hid hnd
    have ME := hid hmem
    have FR := hid fr
    have hSl : S.length ≤ 117 := Nat.le_trans (nodup_lenB hnd (fun y hy => (bag_mem OK.out y).2 ((hmem y).1 hy).1)) (bag_len OK.out)
    have hsum : sumL (fq (hwD f)) S ≤ 1053 := by have := sumL_le (fq (hwD f)) 9 (fq_le _) S; omega
    have hsI : (sumL (fq (hwD f)) S : Int) ≤ 1053 := by omega
    have hs0 : (0 : Int) ≤ (sumL (fq (hwD f)) S : Int) := by omega
    clear hnd hmem fr
    rcases rg.next (P := Try.prog) 0 with ⟨hnil, hrun⟩ | ⟨k, vv, w3, hk, hv, hrun, hen, rg3, f3, z3⟩
    · clear rg
      subst hnil
      have HP : Hid (sumL (fq (hwD f)) S = pairsOf f (ids f)) := pairs_eq OK.out ND.out (fun y => by rw [ME.out y]; simp)
      rw [HP.out] at hsI hs0 ⊢
      clear hsum hSl ND ME RG
      have HX := hid (H.out.frw FR.out (fun _ _ h => h))
      have c0 := HX.out.x0.c
      have m2 := @run_makeMap Try.prog
      go_upto_region 11 with fail
      have MW := hid (MapF.new kk wr)
      have FW : Hid (Fr (fun _ => False) wr (wr.alloc (.map #[] 0))) := (Fr.refl _ _).alloc _
      have HXW := hid (HX.out.frw FW.out (fun _ _ h => h))
      obtain ⟨bw, hbw⟩ : ∃ bw, bw = wr.heap.size := ⟨_, rfl⟩
      rw [← hbw] at MW ⊢
      have HBW : Hid (bw = wr.heap.size ∧ w.heap.size ≤ bw) := ⟨hbw, by rw [hbw]; exact FR.out.size⟩
      have FRW := hid (FR.out.trans FW.out)
      clear hbw m2 c0 hrun
      generalize wr.alloc (.map #[] 0) = wa at *
      have c0 := HXW.out.x0.c
      have HI := hid (ids_any HXW.out.st)
      go_wp2_with fail
      refine HI.out.mono ?_
      rintro e w5 ⟨iv5, rfl, ow5, _, f5⟩
      have OI := hid ow5
      have F5 := hid (FRW.out.trans f5)
      have HX5 := hid (HXW.out.frw f5 (fun _ _ h => h))
      have MW5 := hid (MW.out.fr f5 (fun h => h))
      have HZ5 : Hid (bw < wa.heap.size) := MW.out.lt
      have HDS : Hid (∀ i ∈ ids f, ∃ g t, f i = some (g, t) ∧ t.size ≤ 12 ∧ getP f i = ⟨i, g, t, 0⟩) := by
        intro i hi
        have hs := (ids_mem OK.out i).1 hi
        obtain e | ⟨⟨g, t⟩, e⟩ := opt (f i)
        · rw [e] at hs; cases hs
        · have hr := OK.out.rng i _ e
          have hg : goodB i = true := by simp [goodB]; exact ⟨hr.1, hr.2.1⟩
          exact ⟨g, t, e, hr.2.2.2.2, by simp [getP, hg, e]⟩
      have hil := ids_len f
      have hin := nDocs_le f
      have HPL := hid (pairs_le OK.out (ids f))
      have HAL : Hid (∀ a, pairsOf f ((ids f).take a) ≤ pairsOf f (ids f)) := by
        intro a
        unfold pairsOf
        have : ∀ (l m : List Int), sumL (fun i => (splitL (txt f i)).length) (l ++ m) = sumL (fun i => (splitL (txt f i)).length) l + sumL (fun i => (splitL (txt f i)).length) m := by
          intro l m
          induction l with
          | nil => simp [sumL]
          | cons b l ih => simp [sumL, ih]; omega
        have e := this ((ids f).take a) ((ids f).drop a)
        rw [List.take_append_drop] at e
        omega
      have HWI := hid (wantF_ids f)
      have HPS : Hid (∀ a i, a < (ids f).length → (ids f).getD a 0 = i → pairsOf f ((ids f).take (a + 1)) = pairsOf f ((ids f).take a) + (splitL (txt f i)).length ∧ (ids f).take (a + 1) = (ids f).take a ++ [i]) := by
        intro a i ha e
        have e1 : (ids f).take (a + 1) = (ids f).take a ++ [i] := by
          rw [List.take_succ_eq_append_getElem ha, ← e]
          simp [List.getD, ha]
        rw [e1]
        exact ⟨pairsOf_snoc _ _ _, rfl⟩
      obtain ⟨l, hl⟩ : ∃ l, l = ids f := ⟨_, rfl⟩
      rw [← hl] at OI HDS hil HPL HAL HWI HPS hsI hs0 ⊢
      clear hl ow5 f5 HI c0
      obtain ⟨ia, ic, hiv⟩ : ∃ a c, iv5 = .slice a l.length c := by
        rcases OI.out.empty with ⟨e1, e2⟩ | ⟨g, cap, e1, _⟩
        · exact ⟨none, 0, by rw [e1, e2]; rfl⟩
        · exact ⟨_, cap, e1⟩
      subst hiv
      have hlb : (l.length : Int) ≤ 9 := by omega
      have hlbn : l.length ≤ 9 := by omega
      obtain ⟨Pt, hPt⟩ : ∃ Pt, Pt = pairsOf f l := ⟨_, rfl⟩
      rw [← hPt] at hsI hs0 HAL HPL ⊢
      have HPT := hid hPt
      clear hPt hil hin
      go_wp2_with fail
      go_loopw [3, 10] (fun t b wr => ∃ (a n : Nat), a ≤ l.length ∧ b = .int .i64 a ∧ t = .int .i64 ((Pt : Int) - (pairsOf f (l.take a) : Int)) ∧ MapF kk wr bw (cmK (wantF f (l.take a))) n ∧ Fr (fun j => j = bw) w5 wr) (fun _ b _ => l.length - (intOf b).toNat)
      case atStart => exact ⟨0, 0, by omega, rfl, by simp [pairsOf, sumL], by rw [List.take_zero, wantF_nil]; have : cmK (fun _ => 0) = fun _ => none := by { funext k; simp [cmK] }; rw [this]; exact MW5.out, Fr.refl _ _⟩
      case round =>
        clear MW5
        obtain ⟨a, n, ha, rfl, rfl, mw, fr⟩ := hrel
        have MWK := hid mw
        have FK := hid fr
        have ha0 : (0 : Int) ≤ (a : Int) := by omega
        have hpa := HAL.out a
        have hpI : (pairsOf f (l.take a) : Int) ≤ (Pt : Int) := by omega
        have hp0 : (0 : Int) ≤ (pairsOf f (l.take a) : Int) := by omega
        clear mw fr
        have hnF : Hid (∀ i, (F i ∧ i < w.heap.size) → i ≠ bw) := fun i hi e => by have := HBW.out.2; have := hi.2; omega
        have HXR := hid (HX5.out.frw FK.out (fun i hi e => hnF.out i hi e))
        by_cases hlt : a < l.length
        · have hltI : (a : Int) < (l.length : Int) := by omega
          rcases OI.out.empty with ⟨_, hn⟩ | ⟨gi, ci, hv, hgb, hgl⟩
          · rw [hn] at hlt; simp at hlt
          cases hv
          have CI := hid ((OI.out.cell rfl hlt).fr FK.out (fun e => by have e' : gi = bw := e; have := HZ5.out; omega))
          have hmemi : l.getD a 0 ∈ l := by simp [List.getD, hlt]
          obtain ⟨g, t, hs, ht, hgp⟩ := HDS.out _ hmemi
          have HPSA := hid (HPS.out a _ hlt rfl)
          have hidr := OK.out.rng _ _ hs
          have HTX : Hid (txt f (l.getD a 0) = t) := by unfold Hid; simp only [txt, hs]; rfl
          have HHS := hid hs
          generalize l.getD a 0 = id at *
          have HG : Hid (∀ W, Fr (fun _ => False) wr W → Calls Try.prog 27 #[.pointer (some ⟨bS, 0, none⟩), .int .i64 id] W fun e w' => e = .returned (.tuple #[.agg #[.int .i64 id, .int .i64 g, .string t], .int .i64 0]) ∧ Fr (fun _ => False) W w') := by
            intro W hW
            have := get_any (HXR.out.st.frw hW (fun _ _ h => h)) id
            rw [hgp] at this
            exact this
          have c0 := HXR.out.x0.c
          have ci' := CI.out.c
          have lx := HXR.out.x0.lt
          have lg := CI.out.lt
          clear hs hgp hmemi
          go_upto_region 16 with fail
          go_cut [11] (fun p wx => ∃ pd, p = .pointer (some ⟨pd, 0, none⟩) ∧ wr.heap.size ≤ pd ∧ At wx pd 0 (.int .i64 id) ∧ At wx pd 1 (.int .i64 g) ∧ At wx pd 2 (.string t) ∧ Fr (fun _ => False) wr wx)
          case first =>
            go_region_with (go_at_call 27; refine (HG.out _ (by first | exact (Fr.refl _ _).drew | exact ((Fr.refl _ _).alloc _).drew)).mono ?_; rintro e x7 ⟨rfl, g7⟩; first | (have p0 := (At.new wr #[.int .i64 0, .int .i64 0, .string ⟨#[]⟩] 59 (o := 0) rfl).drew.fr g7 (fun h => h); have p1 := (At.new wr #[.int .i64 0, .int .i64 0, .string ⟨#[]⟩] 59 (o := 1) rfl).drew.fr g7 (fun h => h); have p2 := (At.new wr #[.int .i64 0, .int .i64 0, .string ⟨#[]⟩] 59 (o := 2) rfl).drew.fr g7 (fun h => h); have pc0 := p0.c; have pc1 := p1.c; have pc2 := p2.c; have pf0 := p0.f; have pf1 := p1.f; have pf2 := p2.f; have G7 := hid ((((Fr.refl (fun _ => False) wr).alloc (.cells #[.int .i64 0, .int .i64 0, .string ⟨#[]⟩] 59)).drew).trans g7)) | (have G7 := hid (((Fr.refl (fun _ => False) wr).drew).trans g7)))
            all_goals go_wp2_with fail
            all_goals go_meet
            all_goals first
              | exact ⟨_, rfl, G7.out.size, At.new x7 _ _ rfl, At.new x7 _ _ rfl, At.new x7 _ _ rfl, G7.out.alloc _⟩
              | exact ⟨_, rfl, Nat.le_refl _, ((p0.same _).other (by omega) _).other (by omega) _, ((p1.other (by omega) _).same _).other (by omega) _, ((p2.other (by omega) _).other (by omega) _).same _, G7.out.then (set3_fr _ _ _ _ _) (fun i hi e => by have e' : i = wr.heap.size := e; omega)⟩
          case rest =>
            obtain ⟨pd, rfl, hpd, d0, d1, d2, fd⟩ := hcut
            have D0 := hid d0
            have D1 := hid d1
            have D2 := hid d2
            have FD := hid fd
            have HPD := hid hpd
            clear d0 d1 d2 fd hpd c0 ci' HG lx lg
            have HXD := hid (HXR.out.frw FD.out (fun _ _ h => h))
            have MWD := hid (MWK.out.fr FD.out (fun h => h))
            have y2 := D2.out.c
            have ht1000 : t.size ≤ 1000 := by have := hidr.2.2.2.2; simp only at this; omega
            have HT12 := hid ht
            go_wp2_with fail
            refine (split_any ht1000 wc).mono ?_
            rintro e w7 ⟨sv, rfl, ows, f7⟩
            have OS := hid ows
            have HX7 := hid (HXD.out.frw f7 (fun _ _ h => h))
            have MW7 := hid (MWD.out.fr f7 (fun h => h))
            have D07 := hid (D0.out.fr f7 (fun h => h))
            have D17 := hid (D1.out.fr f7 (fun h => h))
            have FK7 : Hid (Fr (fun j => j = bw) w5 w7) := (FK.out.trans (FD.out.mono (fun _ _ h => h.elim))).trans (f7.mono (fun _ _ h => h.elim))
            have HBD : Hid (bw < wr.heap.size) := MWK.out.lt
            have hsl := splitL_len t
            have HSN := hid (splitL_nodup t)
            have HSM : Hid (∀ y ∈ splitL t, hwD f y id = true) := fun y hy => by rw [hwD_some HHS.out]; simp [(splitL_mem t y).1 hy]
            have HPS2 : Hid (pairsOf f (l.take (a + 1)) = pairsOf f (l.take a) + (splitL t).length ∧ l.take (a + 1) = l.take a ++ [id]) := by
              have := HPSA.out
              rw [HTX.out] at this
              exact this
            have HPA1 := hid (HAL.out (a + 1))
            have HWS : Hid (wantF f (l.take (a + 1)) = addT (wantF f (l.take a)) g (splitL t)) := by
              unfold Hid
              rw [HPS2.out.2]
              exact wantF_snoc HHS.out
            obtain ⟨ws, hws⟩ : ∃ ws, ws = splitL t := ⟨_, rfl⟩
            rw [← hws] at OS hsl HSN HSM HPS2 HWS
            clear hws ows f7 y2 HPSA
            obtain ⟨sa, sc, hsv⟩ := OS.out.form
            subst hsv
            have hwb : (ws.length : Int) ≤ 13 := by have := HT12.out; omega
            have hP0 : (Pt : Int) ≤ 117 := by have := HPL.out; omega
            have hPw : (pairsOf f (l.take a) : Int) + (ws.length : Int) ≤ (Pt : Int) := by have := HPA1.out; have := HPS2.out.1; omega
            go_wp2_with fail
            go_loopw [3, 14] (fun tt b wi => ∃ (k n' : Nat), k ≤ ws.length ∧ b = .int .i64 k ∧ tt = .int .i64 ((Pt : Int) - (pairsOf f (l.take a) : Int) - (k : Int)) ∧ MapF kk wi bw (cmK (addT (wantF f (l.take a)) g (ws.take k))) n' ∧ Fr (fun j => j = bw) w7 wi) (fun _ b _ => ws.length - (intOf b).toNat)
            case atStart => exact ⟨0, _, by omega, rfl, by simp, by rw [List.take_zero, addT_nil]; exact MW7.out, Fr.refl _ _⟩
            case round =>
              clear MW7
              obtain ⟨k, n', hk, rfl, rfl, mwi, fi⟩ := hrel
              have MWI := hid mwi
              have FI := hid fi
              have hk0 : (0 : Int) ≤ (k : Int) := by omega
              clear mwi fi
              by_cases hkl : k < ws.length
              · have hklI : (k : Int) < (ws.length : Int) := by omega
                rcases OS.out.empty with ⟨_, hn⟩ | ⟨gs, cs, hv, hgsb, hgsl⟩
                · rw [hn] at hkl; simp at hkl
                cases hv
                have CS := hid ((OS.out.cell rfl hkl).fr FI.out (fun e => by have e' : gs = bw := e; have := HBD.out; have := FD.out.size; omega))
                have HXI := hid (HX7.out.frw FI.out (fun i hi e => hnF.out i hi e))
                have hpdb : ¬ pd = bw := fun e => by have := HBD.out; have := HPD.out; omega
                have D0I := hid (D07.out.fr FI.out hpdb)
                have D1I := hid (D17.out.fr FI.out hpdb)
                have hxm := getD_mem hkl
                have hxD := HSM.out _ hxm
                have hxT := hid (take_succ_getD ws k hkl)
                have hxN := nodup_take HSN.out hkl
                have HAT := hid (addT_snoc (wantF f (l.take a)) g hxN)
                generalize ws.getD k ⟨#[]⟩ = x at *
                have hfx : fq (hwD f) x ≠ 0 := by
                  unfold fq
                  intro h0
                  rw [List.countP_eq_zero] at h0
                  exact h0 id (mem_nine hidr.1 hidr.2.1) hxD
                have dr := (Fr.refl (fun _ => False) wr).drew
                obtain ⟨ni, mi⟩ := HXI.out.xi.inv
                have hl1 := (mi.fr dr (fun h => h)).lookup kStr uInv (zPost wr.drew) x false
                have eim : im q (hwD f) x = some (.agg #[.map (some (q x)), .int .i64 (fq (hwD f) x : Int)]) := by unfold im; rw [if_neg hfx]
                rw [eim] at hl1
                have hl1' : (Instr.lookup 54 (.map (some bi)) (.string x) false).run Try.prog wr.drew = .ok (.agg #[.map (some (q x)), .int .i64 (fq (hwD f) x : Int)]) wr.drew := hl1
                have hl2 := ((HXI.out.xi.set x hfx).fr dr (fun h => h)).lookup kInt uSet (zBool wr.drew) id true
                have esm : sm (hwD f x) id = some (.bool true) := by unfold sm; rw [if_pos hxD]
                rw [esm] at hl2
                have hl2' : (Instr.lookup 63 (.map (some (q x))) (.int .i64 id) true).run Try.prog wr.drew = .ok (.tuple #[.bool true, .bool true]) wr.drew := hl2
                have hfd := fld0
                have c1 := HXI.out.x1.c
                have cs' := CS.out.c
                have i0 := D0I.out.c
                clear hl1 hl2 mi eim esm hxD hxm hfx
                go_upto_region 21 with fail
                go_cut [8, 9] (fun a b wx => a = .bool true ∧ b = .bool true ∧ wx = wr.drew)
                case first =>
                  go_region
                  all_goals go_wp2_with fail
                  all_goals go_meet
                  all_goals exact ⟨rfl, rfl, rfl⟩
                case rest =>
                  obtain ⟨rfl, rfl, hwx⟩ := hcut
                  obtain rfl := hwx.symm
                  clear hwx hl1' hl2' hfd c1 cs' i0
                  have dr2 : Fr (fun _ => False) wr wr.drew.drew := dr.trans ((Fr.refl (fun _ => False) wr.drew).drew)
                  have MT4 := MWI.out.fr dr2 (fun h => h)
                  obtain ⟨Tk, hTk⟩ : ∃ Tk, Tk = addT (wantF f (l.take a)) g (ws.take k) := ⟨_, rfl⟩
                  rw [← hTk] at MT4
                  have hTb : Tk (g, x) ≤ 10 := by
                    rw [hTk]
                    have h1 := wantF_le f (l.take a) (g, x)
                    have h2 : (l.take a).length ≤ 9 := by rw [List.length_take]; omega
                    unfold addT
                    split <;> omega
                  rw [← hTk] at HAT
                  clear hTk
                  have hlk5 := MT4.lookup kKey uBy (zInt wr.drew.drew) (g, x) false
                  rw [cmK_get] at hlk5
                  have hlk5' : (Instr.lookup 55 (.map (some bw)) (.agg #[.int .i64 g, .string x]) false).run Try.prog wr.drew.drew = .ok (.int .i64 (Tk (g, x) : Int)) wr.drew.drew := hlk5
                  obtain ⟨st, w8, he5, hm5, hf5, hs5, hst5⟩ := MT4.entry kKey uBy (zInt wr.drew.drew) (g, x)
                  rw [cmK_get] at he5
                  have he5' : (Instr.mapEntry 55 (.map (some bw)) (.agg #[.int .i64 g, .string x])).run Try.prog wr.drew.drew = .ok (.tuple #[.int .i64 (Tk (g, x) : Int), .int .i64 st]) w8 := he5
                  have hlk7 := hm5.lookup kKey uBy (zInt w8) (g, x) false
                  have e7 : (updF (cmK Tk) (g, x) (some ((cmK Tk (g, x)).getD (.int .i64 0))) (g, x)).getD (.int .i64 0) = .int .i64 (Tk (g, x) : Int) := by rw [← cmK_get]; simp [updF]
                  have hlk7' : (Instr.lookup 55 (.map (some bw)) (.agg #[.int .i64 g, .string x]) false).run Try.prog w8 = .ok (.int .i64 (Tk (g, x) : Int)) w8 := by rw [← e7]; exact hlk7
                  obtain ⟨w9, hr6, m6, f6, s6⟩ := hst5 (.int .i64 ((Tk (g, x) : Int) + 1))
                  rw [cmK_add] at m6
                  have M9 := hid m6
                  have hgsb' : ¬ gs = bw := fun e => by have := HBD.out; have := FD.out.size; omega
                  have f45 : Fr (fun i => i = bw) wr w8 := (dr2.mono (fun _ _ h => h.elim)).trans hf5
                  have gd := (D1I.out.fr f45 hpdb).c
                  have gw := (CS.out.fr f45 hgsb').c
                  have F9 : Hid (Fr (fun j => j = bw) w7 w9) := (FI.out.trans (dr2.mono (fun _ _ h => h.elim))).trans f6
                  clear hlk5 he5 hst5 m6 f6 s6 MT4 hm5 hf5 hs5 hlk7 e7 f45
                  have hTI : (Tk (g, x) : Int) ≤ 10 := by omega
                  have hT0 : (0 : Int) ≤ (Tk (g, x) : Int) := by omega
                  have d1 := D1I.out.c
                  have cw := CS.out.c
                  go_upto_region 24 with fail
                  go_cut [] (fun wx => wx = w9)
                  case first =>
                    go_region
                    all_goals go_wp2_with fail
                    all_goals go_meet
                    all_goals rfl
                  case rest =>
                    obtain rfl := hcut.symm
                    clear hcut hlk5' he5' hlk7' hr6 gd gw d1 cw
                    go_wp2_with fail
                    exact ⟨⟨k + 1, _, by omega, by go_num, by go_num, by rw [hxT.out, HAT.out]; exact M9.out, F9.out⟩, by simp [intOf]; omega⟩
              · have hkl' : ¬ (k : Int) < (ws.length : Int) := by omega
                have hke : k = ws.length := by omega
                have HTW : Hid (ws.take k = ws) := List.take_of_length_le (by omega)
                rw [HTW.out, ← HWS.out] at MWI
                have F9 : Hid (Fr (fun j => j = bw) w5 wr) := FK7.out.trans FI.out
                have hpe := HPS2.out.1
                subst hke
                go_wp2_with fail
                exact ⟨⟨a + 1, _, by omega, by go_num, by rw [hpe]; go_num, MWI.out, F9.out⟩, by simp [intOf]; omega⟩
        · have hge : ¬ (a : Int) < (l.length : Int) := by omega
          have HTL : Hid (l.take a = l) := List.take_of_length_le (by omega)
          rw [HTL.out, HWI.out] at MWK
          rw [HTL.out, ← HPT.out]
          have e0 : (Pt : Int) - (Pt : Int) = 0 := by omega
          rw [e0]
          clear e0
          obtain ⟨mb, mt⟩ := HXR.out.xi.tal
          have hmn := mt.same MWK.out
          subst hmn
          have drr := (Fr.refl (fun _ => False) wr).drew
          have hl1 : (Builtin.len_ #[55] 3 #[.map (some bw)]).run Try.prog wr.drew = .ok (.int .i64 (mb : Int)) wr.drew := (MWK.out.fr drr (fun h => h)).len uBy
          have hl2 : (Builtin.len_ #[55] 3 #[.map (some bb)]).run Try.prog wr.drew = .ok (.int .i64 (mb : Int)) wr.drew := (mt.fr drr (fun h => h)).len uBy
          have c2 := HXR.out.x2.c
          clear mt
          go_upto_region 26 with fail
          go_cut [145] (fun v wx => v = .bool false ∧ wx = wr.drew)
          case first =>
            go_region
            all_goals go_wp2_with fail
            all_goals go_meet
            all_goals exact ⟨rfl, rfl⟩
          case rest =>
            obtain ⟨rfl, hwx⟩ := hcut
            obtain rfl := hwx.symm
            clear hwx hl1 hl2 c2
            have MWR := hid (MWK.out.fr drr (fun h => h))
            have FZ0 : Hid (Fr (fun _ => False) w wr.drew) := ((F5.out.then FK.out (fun i hi e => by have e' : i = bw := e; have := HBW.out.2; omega))).trans drr
            have HXZ := hid (HXR.out.frw drr (fun _ _ h => h))
            go_wp2_with (first
              | (at_range; refine wp_range rfl rfl uBy MWR.out rfl ?_; intro w9 lz rg9 ln9 lm9 f9 z9; go_frame)
              | go_in)
            obtain ⟨rc, hrc⟩ : ∃ rc, rc = wr.heap.size := ⟨_, rfl⟩
            have rg9 : Ranges kk w9 bw rc (cmK (tlK f)) lz := by rw [hrc]; exact rg9
            rw [← hrc]
            have HRC : Hid (w.heap.size ≤ rc) := by rw [hrc]; exact FZ0.out.size
            have HX9 := hid (HXZ.out.frw f9 (fun _ _ h => h))
            have F9 := hid (FZ0.out.trans f9)
            have RG9 := hid rg9
            clear hrc rg9 f9 z9 ln9 lm9
            go_loopw [] (fun wz => ∃ left, Ranges kk wz bw rc (cmK (tlK f)) left ∧ Fr (fun j => j = rc) w9 wz) (fun wz => wz.rangeLeft bw rc)
            case atStart => exact ⟨lz, RG9.out, Fr.refl _ _⟩
            case round =>
              clear RG9
              obtain ⟨left, rg, fr⟩ := hrel
              have RG := hid rg
              have FZ := hid fr
              clear fr
              rcases rg.next (P := Try.prog) 0 with ⟨hnil, hrun⟩ | ⟨key, vv, w10, hk, hv, hrun, hen, rg3, f3, z3⟩
              · clear rg
                go_wp2_with fail
                go_ret
                exact ⟨rfl, F9.out.then FZ.out (fun i hi e => by have e' : i = rc := e; have := HRC.out; omega)⟩
              · have hvv : vv = .int .i64 (tlK f key : Int) := by
                  unfold cmK at hv
                  split at hv
                  · cases hv
                  · cases hv; rfl
                subst hvv
                have RG3 := hid rg3
                have HK := hid hk
                have HRL := hid rg.left_eq
                have F10 : Hid (Fr (fun j => j = rc) w9 w10) := FZ.out.trans f3
                simp only [kk] at hrun hen
                clear rg rg3 hv f3 z3 hk
                go_upto_region 31 with fail
                have FA := hid ((Fr.refl (fun _ => False) w10).alloc (.cells #[.int .i64 key.1, .string key.2] 68))
                have K0 := hid (At.new w10 #[.int .i64 key.1, .string key.2] 68 (o := 0) rfl)
                have K1 := hid (At.new w10 #[.int .i64 key.1, .string key.2] 68 (o := 1) rfl)
                have RG4 := hid (RG3.out.fr FA.out (fun h => h) (fun h => h))
                have F11 := hid (F10.out.trans (FA.out.mono (fun _ _ h => h.elim)))
                clear hrun hen RG3 F10 FA
                generalize w10.alloc (.cells #[.int .i64 key.1, .string key.2] 68) = w11 at *
                generalize w10.heap.size = pK at *
                have HX11 := hid (HX9.out.frw F11.out (fun i hi e => by have e' : i = rc := e; have := hi.2; have := HRC.out; omega))
                obtain ⟨m9, mt9⟩ := HX11.out.xi.tal
                have hlk := (mt9.fr ((Fr.refl (fun _ => False) w11).drew) (fun h => h)).lookup kKey uBy (zInt w11.drew) key false
                rw [cmK_get] at hlk
                have hlk' : (Instr.lookup 55 (.map (some bb)) (.agg #[.int .i64 key.1, .string key.2]) false).run Try.prog w11.drew = .ok (.int .i64 (tlK f key : Int)) w11.drew := hlk
                clear hlk mt9
                have c2 := HX11.out.x2.c
                have k0 : w11.cell? ⟨pK, 0, none⟩ = some (.int .i64 key.1) := K0.out.c
                have k1 : w11.cell? ⟨pK, 1, none⟩ = some (.string key.2) := K1.out.c
                go_cut [160] (fun v wx => v = .bool false ∧ wx = w11.drew)
                case first =>
                  go_region
                  all_goals go_wp2_with fail
                  all_goals go_meet
                  all_goals exact ⟨rfl, rfl⟩
                case rest =>
                  obtain ⟨rfl, hwx⟩ := hcut
                  obtain rfl := hwx.symm
                  clear hwx hlk' c2 k0 k1
                  have RG5 := RG4.out.fr ((Fr.refl (fun _ => False) w11).drew) (fun h => h) (fun h => h)
                  have HR5 := hid RG5
                  have F12 : Hid (Fr (fun j => j = rc) w9 w11.drew) := F11.out.trans ((Fr.refl (fun j => j = rc) w11).drew)
                  clear RG5
                  go_wp2_with fail
                  exact ⟨⟨left.filter (· ≠ key), HR5.out, F12.out⟩, by rw [HR5.out.left_eq, HRL.out]; exact List.length_filter_lt_length_iff_exists.2 ⟨key, HK.out, by simp⟩⟩
    · have hfk : fq (hwD f) k ≠ 0 := by
        have := rg.here hk
        unfold im at this
        intro c
        rw [if_pos c] at this
        cases this
      have hvv : vv = .agg #[.map (some (q k)), .int .i64 (fq (hwD f) k : Int)] := by
        unfold im at hv
        rw [if_neg hfk] at hv
        cases hv
        rfl
      subst hvv
      have RG3 := hid rg3
      have HK := hid hk
      have HFK := hid hfk
      have F3 : Hid (Fr (fun _ => False) w w3) := FR.out.then f3 (fun i hi e => by have e' : i = rb := e; have := HRB.out; omega)
      simp only [sk] at hrun hen
      have HRL := hid rg.left_eq
      clear rg rg3 hv f3 z3
      clear hk
      go_upto_region 7 with fail
      have FA := hid ((Fr.refl (fun _ => False) w3).alloc (.cells #[.map (some (q k)), .int .i64 (fq (hwD f) k : Int)] 65))
      have P0 := hid (At.new w3 #[.map (some (q k)), .int .i64 (fq (hwD f) k : Int)] 65 (o := 0) rfl)
      have P1 := hid (At.new w3 #[.map (some (q k)), .int .i64 (fq (hwD f) k : Int)] 65 (o := 1) rfl)
      have RG4 := hid (RG3.out.fr FA.out (fun h => h) (fun h => h))
      have F4 := hid (F3.out.trans FA.out)
      clear hrun hen RG3 F3 FA
      generalize w3.alloc (.cells #[.map (some (q k)), .int .i64 (fq (hwD f) k : Int)] 65) = w4 at *
      generalize w3.heap.size = pP at *
      have hlen := ((H.out.xi.set k hfk).fr F4.out (fun h => h)).len (P := Try.prog) (ty := 3) uSet
      have y0 : w4.cell? ⟨pP, 0, none⟩ = some (.map (some (q k))) := P0.out.c
      have y1 : w4.cell? ⟨pP, 1, none⟩ = some (.int .i64 (fq (hwD f) k : Int)) := P1.out.c
      have hf9 : (fq (hwD f) k : Int) ≤ 9 := by have := fq_le (hwD f) k; omega
      have hf1 : (1 : Int) ≤ (fq (hwD f) k : Int) := by omega
      have hfz : ((fq (hwD f) k : Int) == 0) = false := by simp; exact hfk
      clear hfk
      go_wp2_with fail
      refine ⟨⟨left.filter (· ≠ k), S ++ [k], RG4.out, ?_, fun y => ?_, by rw [sumL_snoc]; go_num, F4.out⟩, by rw [RG4.out.left_eq, HRL.out]; exact filter_ltB HK.out⟩
      · rw [List.nodup_append]
        refine ⟨ND.out, by simp, ?_⟩
        intro a ha b hb e
        simp at hb
        subst hb
        rw [e] at ha
        exact ((ME.out b).1 ha).2 HK.out
      · rw [List.mem_append, ME.out y, List.mem_filter]
        by_cases e : y = k
        · subst e; simp [HFK.out]
        · simp [e]

end Go.Proofs.Qxb6500449a
