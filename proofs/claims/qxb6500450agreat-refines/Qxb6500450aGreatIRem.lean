/- The index: remove. -/
import Derived.Test.Qxb6500450aGreatIAdd
namespace Go.Proofs.Qxb6500450aGreat
open Go Go.RowKit
set_option maxRecDepth 100000
set_option maxHeartbeats 8000000
set_option linter.unusedSimpArgs false
set_option linter.unusedVariables false

theorem remove_any {w : World} {bX bi bb : Nat} {q : ByteArray → Nat} {D : PostF} {T : TalF} {id g : Int} {t : ByteArray} (x1 : At w bX 1 (.map (some bi))) (x2 : At w bX 2 (.map (some bb))) (h : XI w bi bb q D T) (h1 : 1 ≤ id) (h2 : id ≤ 9) (ht : t.size ≤ 1000) (hD : ∀ y ∈ runs t, D y id = true) (hP : ∀ y ∈ runs t, 1 ≤ T (g, y)) (hT : ∀ k, T k ≤ 1000) :
    Calls Tryz.prog 78 #[.pointer (some ⟨bX, 0, none⟩), docV id g t] w fun e w' => e = .returned (.tuple #[]) ∧ XI w' bi bb q (delP D id (splitL t)) (delT T g (splitL t)) ∧ Fr (XS bi bb q D) w w' := by
  have H := hid h
  have X1 := hid x1
  have X2 := hid x2
  have HD := hid hD
  have HTL := hid hT
  have HPL := hid hP
  have HLT := hid h.lt
  have NX : Hid (¬ XS bi bb q D bX) := by
    rintro (c | c | ⟨y, hy, c⟩)
    · obtain ⟨n, m⟩ := h.inv; exact (m.ne_at x1) c.symm
    · obtain ⟨n, m⟩ := h.tal; exact (m.ne_at x1) c.symm
    · exact ((h.set y hy).ne_at x1) c.symm
  have hbX := x1.lt
  clear h x1 x2 hD hT hP
  simp only [docV]
  go_enter Tryz.func78, Tryz.ntmps78
  go_upto_region 1 with fail
  have FA := hid ((Fr.refl (fun _ => False) w).alloc (.cells #[.int .i64 id, .int .i64 g, .string t] 112))
  have PD : Hid (∀ q v, (#[.int .i64 id, .int .i64 g, .string t] : Array Value)[q]? = some v → At (w.alloc (.cells #[.int .i64 id, .int .i64 g, .string t] 112)) w.heap.size q v) := fun q v hv => At.new w _ _ hv
  have hz0 : (w.alloc (.cells #[.int .i64 id, .int .i64 g, .string t] 112)).heap.size = w.heap.size + 1 := by simp
  generalize w.alloc (.cells #[.int .i64 id, .int .i64 g, .string t] 112) = w0 at *
  obtain ⟨pd, hpd⟩ : ∃ pd, pd = w.heap.size := ⟨_, rfl⟩
  rw [← hpd] at PD hz0 HLT hbX ⊢
  have HPD := hid hpd
  have HZ0 := hid hz0
  clear hpd hz0
  have d2 := (PD.out 2 _ rfl).c
  go_wp2_with fail
  refine (split_any ht w0).mono ?_
  rintro e w1 ⟨v, rfl, ow, f1⟩
  have OW := hid ow
  have F1 := hid (FA.out.trans f1)
  have PD1 := hid (fun q v hv => (PD.out q v hv).fr f1 (fun h => h))
  have HZ1 := hid f1.size
  clear ow f1 d2 PD
  have HX1 := hid (H.out.fr F1.out (fun _ _ h => h))
  have HL : Hid ((splitL t).Nodup ∧ ∀ y ∈ splitL t, D y id = true ∧ 1 ≤ T (g, y)) := ⟨splitL_nodup t, fun y hy => ⟨HD.out y ((splitL_mem t y).1 hy), HPL.out y ((splitL_mem t y).1 hy)⟩⟩
  have hll := splitL_len t
  obtain ⟨l, hl⟩ : ∃ l, l = splitL t := ⟨_, rfl⟩
  rw [← hl] at OW HL hll
  have HLS := hid hl
  clear hl
  obtain ⟨va, vc, hv⟩ := OW.out.form
  subst hv
  go_wp2_with fail
  go_loopw [5] (fun b wr => ∃ (k : Nat), b = .int .i64 k ∧ k ≤ l.length ∧ XI wr bi bb q (delP D id (l.take k)) (delT T g (l.take k)) ∧ Fr (XS bi bb q D) w1 wr) (fun b _ => l.length - (intOf b).toNat)
  case atStart => exact ⟨0, rfl, by omega, by simp only [List.take_zero, delP_nil, delT_nil]; exact HX1.out, Fr.refl _ _⟩
  case round =>
    clear HX1
    obtain ⟨k, rfl, hk, xi, fr⟩ := hrel
    have XK := hid xi
    have FK := hid fr
    clear xi fr
    have hk0 : (0 : Int) ≤ (k : Int) := by omega
    have hkb : (k : Int) ≤ 2000 := by omega
    by_cases hlt : k < l.length
    · have hltI : (k : Int) < (l.length : Int) := by omega
      have hlb : (l.length : Int) ≤ 2000 := by omega
      rcases OW.out.empty with ⟨_, hn⟩ | ⟨gv, cv, hv, hgb, hgl⟩
      · rw [hn] at hlt; simp at hlt
      cases hv
      have NG : Hid (¬ XS bi bb q D gv) := fun c => by have := HLT.out _ c; have := HZ0.out; omega
      have ND : Hid (¬ XS bi bb q D pd) := fun c => by have := HLT.out _ c; omega
      have CW := hid ((OW.out.cell rfl hlt).fr FK.out NG.out)
      have e1 := take_succ_getD l k hlt
      have HNM := hid (nodup_take HL.out.1 hlt)
      have HNX : Hid (delP D id (l.take k) (l.getD k ⟨#[]⟩) id = true) := by
        have h2 := (HL.out.2 _ (getD_mem hlt)).1
        unfold Hid delP
        rw [h2]
        have h3 := HNM.out
        simp only [h3, decide_false, Bool.and_false, Bool.not_false, Bool.and_true]
      have HE : Hid (delP D id (l.take (k + 1)) = delP (delP D id (l.take k)) id [l.getD k ⟨#[]⟩] ∧ delT T g (l.take (k + 1)) = delT (delT T g (l.take k)) g [l.getD k ⟨#[]⟩]) := by
        rw [e1]; exact ⟨delP_snoc _ _ _ _, delT_snoc _ _ HNM.out⟩
      have HTB : Hid (1 ≤ delT T g (l.take k) (g, l.getD k ⟨#[]⟩) ∧ delT T g (l.take k) (g, l.getD k ⟨#[]⟩) ≤ 1000) := by
        have := HTL.out (g, l.getD k ⟨#[]⟩)
        have hp := (HL.out.2 _ (getD_mem hlt)).2
        have e : delT T g (l.take k) (g, l.getD k ⟨#[]⟩) = T (g, l.getD k ⟨#[]⟩) := by
          unfold delT
          rw [if_neg (fun c => HNM.out c.2)]
          omega
        rw [e]
        exact ⟨hp, this⟩
      have HDX := hid (HL.out.2 _ (getD_mem hlt)).1
      clear e1 HNM
      generalize l.getD k ⟨#[]⟩ = x at *
      generalize delP D id (l.take k) = Dk at *
      generalize delT T g (l.take k) = Tk at *
      have c1 := (X1.out.fr F1.out (fun h => h)).fr FK.out NX.out |>.c
      have cw := CW.out.c
      have lx := ((X1.out.fr F1.out (fun h => h)).fr FK.out NX.out).lt
      have lg := CW.out.lt
      have lp := ((PD1.out 0 _ rfl).fr FK.out ND.out).lt
      obtain ⟨ni, MI⟩ := XK.out.inv
      have MI := hid MI
      have HFX : Hid (fq D x ≠ 0) := by
        have := HDX.out
        unfold Hid fq
        intro h0
        rw [List.countP_eq_zero] at h0
        exact h0 id (mem_nine h1 h2) this
      have hfp : fq Dk x ≠ 0 := by have := fq_del h1 h2 HNX.out; omega
      have hlk : ∀ W, MapF sk W bi (im q Dk) ni → (Instr.lookup 77 (.map (some bi)) (.string x) false).run Tryz.prog W = .ok (.agg #[.map (some (q x)), .int .i64 (fq Dk x : Int)]) W := fun W hm => by
        have := hm.lookup kStr uInv (zPost W) x false
        have e : im q Dk x = some (.agg #[.map (some (q x)), .int .i64 (fq Dk x : Int)]) := by unfold im; rw [if_neg hfp]
        rw [e] at this
        exact this
      have fz := (Fr.refl (fun _ => False) wr).alloc (.cells #[.map none, .int .i64 0] 117)
      have l1 := hlk wr MI.out
      have l2 := hlk wr.drew (MI.out.fr ((Fr.refl (fun _ => False) wr).drew) (fun h => h))
      have l3 := hlk (wr.alloc (.cells #[.map none, .int .i64 0] 117)) (MI.out.fr fz (fun h => h))
      have l4 := hlk (wr.alloc (.cells #[.map none, .int .i64 0] 117)).drew (MI.out.fr fz.drew (fun h => h))
      clear hlk fz
      go_upto_region 5 with fail
      go_cut [6] (fun p wx => ∃ pP, p = .pointer (some ⟨pP, 0, none⟩) ∧ pP = wr.heap.size ∧ At wx pP 0 (.map (some (q x))) ∧ At wx pP 1 (.int .i64 (fq Dk x : Int)) ∧ Fr (fun _ => False) wr wx)
      case first =>
        go_region
        all_goals go_wp2_with fail
        all_goals go_meet
        all_goals exact ⟨_, rfl, rfl, (At.new wr _ _ rfl).drew, (At.new wr _ _ rfl).drew, ((Fr.refl _ _).alloc _).drew⟩
      case rest =>
        obtain ⟨pP, rfl, hpP, b0, b1, fb⟩ := hcut
        have C0 := hid b0
        have C1 := hid b1
        have FW := hid fb
        have HPP : Hid (pP = wr.heap.size) := hpP
        clear b0 b1 fb hpP l1 l2 l3 l4 c1 cw
        obtain ⟨w8, hw8⟩ : ∃ w8, w8 = wc := ⟨_, rfl⟩
        rw [← hw8] at C0 C1 FW ⊢
        clear hw8
        obtain ⟨b, hb⟩ : ∃ b, b = q x := ⟨_, rfl⟩
        have MS : Hid (MapF ik w8 b (sm (Dk x)) (fq Dk x)) := by rw [hb]; exact (XK.out.set x hfp).fr FW.out (fun h => h)
        rw [← hb] at C0
        have HBQ := hid hb
        clear hb
        have hbp : b ≠ pP := MS.out.ne_at C0.out
        have X8 := hid (XK.out.fr FW.out (fun _ _ h => h))
        have D8 := hid (fun q v hv => ((PD1.out q v hv).fr FK.out ND.out).fr FW.out (fun h => h))
        have W8 := hid (CW.out.fr FW.out (fun h => h))
        have XA := hid (((X1.out.fr F1.out (fun h => h)).fr FK.out NX.out).fr FW.out (fun h => h))
        have XB := hid (((X2.out.fr F1.out (fun h => h)).fr FK.out NX.out).fr FW.out (fun h => h))
        have N8 : Hid (pP ≠ pd ∧ pP ≠ gv ∧ pP ≠ bX ∧ b ≠ pd ∧ b ≠ gv ∧ b ≠ bX ∧ b ≠ bi ∧ b ≠ bb) := by
          have := HPP.out
          refine ⟨by omega, by omega, by omega, MS.out.ne_at (D8.out 0 _ rfl), MS.out.ne_at W8.out, MS.out.ne_at XA.out, ?_, ?_⟩
          · rw [HBQ.out]; exact (XK.out.ni x hfp).1
          · rw [HBQ.out]; exact (XK.out.ni x hfp).2
        have y0 := C0.out.c
        have i0 := (D8.out 0 _ rfl).c
        go_upto_region 7 with (first
          | (at_delete; refine wp_del rfl rfl kInt uSet MS.out rfl (k := id) rfl ?_; intro w2 hm2 hf2 hs2)
          | go_in)
        have hno : (sm (Dk x) id).isSome = true := by unfold sm; rw [HNX.out]; rfl
        rw [sm_del, hno] at hm2
        simp only [if_true] at hm2
        have MS2 := hid hm2
        have F2 := hid hf2
        have Z2 := hid hs2
        clear hm2 hf2 hs2 hno y0 i0
        have E1 := hid (C1.out.fr F2.out hbp.symm)
        have E0 := hid (C0.out.fr F2.out hbp.symm)
        have y1 := E1.out.c
        have z1 := E1.out.f
        have hfq : (fq Dk x : Int) ≤ 9 := by have := fq_le Dk x; omega
        have hfq0 : (1 : Int) ≤ (fq Dk x : Int) := by omega
        go_upto_region 8 with fail
        have FS3 : Hid (Fr (fun i => i = pP) w2 (w2.setCell ⟨pP, 1, none⟩ (.int .i64 ((fq Dk x : Int) - 1)))) := (Fr.refl (fun i => i = pP) w2).setCell (p := ⟨pP, 1, none⟩) (fun _ => rfl) _
        have G0 := hid (E0.out.other (b' := pP) (o' := 1) (by omega) (.int .i64 ((fq Dk x : Int) - 1)))
        have G1 := hid (E1.out.same (.int .i64 ((fq Dk x : Int) - 1)))
        clear y1 z1 E0 E1
        generalize w2.setCell ⟨pP, 1, none⟩ (.int .i64 ((fq Dk x : Int) - 1)) = w3 at *
        have F3 : Hid (Fr (fun i => i = b ∨ i = pP) w8 w3) := (F2.out.mono (fun i _ h => Or.inl h)).trans (FS3.out.mono (fun i _ h => Or.inr h))
        have nn : ∀ i, i ≠ b → i ≠ pP → ¬ (i = b ∨ i = pP) := fun i h1 h2 => fun c => c.elim h1 h2
        have XA3 := hid (XA.out.fr F3.out (nn _ N8.out.2.2.2.2.2.1.symm N8.out.2.2.1.symm))
        have XB3 := hid (XB.out.fr F3.out (nn _ N8.out.2.2.2.2.2.1.symm N8.out.2.2.1.symm))
        have W3 := hid (W8.out.fr F3.out (nn _ N8.out.2.2.2.2.1.symm N8.out.2.1.symm))
        have D3 := hid (fun q v hv => (D8.out q v hv).fr F3.out (nn _ N8.out.2.2.2.1.symm N8.out.1.symm))
        have hbip : bi ≠ pP ∧ bb ≠ pP := by have := XK.out.lt bi (.inl rfl); have := XK.out.lt bb (.inr (.inl rfl)); have := HPP.out; omega
        obtain ⟨n3, MI3⟩ := X8.out.inv
        obtain ⟨m3, MT3⟩ := X8.out.tal
        have MI3 := (MI3.fr F3.out (nn _ N8.out.2.2.2.2.2.2.1.symm hbip.1)).fr ((Fr.refl (fun _ => False) w3).drew) (fun h => h)
        have MT3 := hid ((MT3.fr F3.out (nn _ N8.out.2.2.2.2.2.2.2.symm hbip.2)).fr ((Fr.refl (fun _ => False) w3).drew) (fun h => h))
        have MS3 := hid ((MS2.out.fr FS3.out hbp).fr ((Fr.refl (fun _ => False) w3).drew) (fun h => h))
        clear nn
        have y0 := G0.out.c
        have y1 := G1.out.c
        have c1 := XA3.out.c
        have cw := W3.out.c
        by_cases hone : fq Dk x = 1
        · have hz : ((fq Dk x : Int) - 1 == 0) = true := by simp; omega
          have hd0 : fq (delP Dk id [x]) x = 0 := by have := fq_del h1 h2 HNX.out; omega
          obtain ⟨w4, hrun4, m4, f4, s4⟩ := MI3.delete (ty := 0) (kt' := 9) kStr uInv x
          rw [im_del0 hd0] at m4
          have M4 := hid m4
          have F4 := hid f4
          clear m4 f4 s4 MI3 hone hd0
          have hrun4' : (Builtin.delete_ #[77, 9] 0 #[.map (some bi), .string x]).run Tryz.prog w3.drew = .ok (.tuple #[]) w4 := hrun4
          clear hrun4
          go_upto_region 9 with fail
          go_cut [] (fun wx => wx = w4)
          case first =>
            go_region
            all_goals go_wp2_with fail
            all_goals go_meet
            all_goals rfl
          case rest =>
            obtain rfl := hcut.symm
            clear hcut hrun4' y0 y1 c1 cw hz
            have dr := (Fr.refl (fun _ => False) w3).drew
            have hXb : bX ≠ bi := fun e => by obtain ⟨n, m⟩ := X8.out.inv; exact (m.ne_at XA.out) e.symm
            have hgb' : gv ≠ bi := fun e => by obtain ⟨n, m⟩ := X8.out.inv; exact (m.ne_at W8.out) e.symm
            have hpb : pd ≠ bi := fun e => by obtain ⟨n, m⟩ := X8.out.inv; exact (m.ne_at (D8.out 0 _ rfl)) e.symm
            have XB4 := hid ((XB3.out.fr dr (fun h => h)).fr F4.out hXb)
            have W4 := hid ((W3.out.fr dr (fun h => h)).fr F4.out hgb')
            have D4 := hid (fun q v hv => ((D3.out q v hv).fr dr (fun h => h)).fr F4.out hpb)
            have MT4 := hid (MT3.out.fr F4.out X8.out.nb.symm)
            have MS4 := hid (MS3.out.fr F4.out N8.out.2.2.2.2.2.2.1)
            have F34 : Hid (Fr (fun i => i = bi ∨ i = bb ∨ i = b) w3 w4) := (dr.mono (fun _ _ h => h.elim)).trans (F4.out.mono (fun _ _ h => .inl h))
            have lg4 := W4.out.lt
            have lp4 := (D4.out 1 _ rfl).lt
            have c3 := (D4.out 1 _ rfl).c
            have cw := W4.out.c
            go_upto_region 11 with fail
            go_cut [7] (fun p wx => ∃ pK, p = .pointer (some ⟨pK, 0, none⟩) ∧ pK = w4.heap.size ∧ At wx pK 0 (.int .i64 g) ∧ At wx pK 1 (.string x) ∧ Fr (fun _ => False) w4 wx)
            case first =>
              go_region
              all_goals go_wp2_with fail
              all_goals go_meet
              all_goals exact ⟨_, rfl, rfl, (At.new w4 _ _ rfl).drew, (At.new w4 _ _ rfl).drew, ((Fr.refl _ _).alloc _).drew⟩
            case rest =>
              obtain ⟨pK, rfl, hpK, k0, k1, fk⟩ := hcut
              have K0 := hid k0
              have K1 := hid k1
              have FKK := hid fk
              have HPK : Hid (pK = w4.heap.size) := hpK
              clear hpK
              clear k0 k1 fk c3 cw lg4 lp4
              obtain ⟨wk, hwk⟩ : ∃ wk, wk = wc := ⟨_, rfl⟩
              rw [← hwk] at K0 K1 FKK ⊢
              clear hwk
              have MT5 := (MT4.out.fr FKK.out (fun h => h)).fr ((Fr.refl (fun _ => False) wk).drew) (fun h => h)
              have XB5 := hid (XB4.out.fr FKK.out (fun h => h))
              have hlk5 := MT5.lookup kKey uBy (zInt wk.drew) (g, x) false
              rw [cmK_get] at hlk5
              have hlk5' : (Instr.lookup 78 (.map (some bb)) (.agg #[.int .i64 g, .string x]) false).run Tryz.prog wk.drew = .ok (.int .i64 (Tk (g, x) : Int)) wk.drew := hlk5
              obtain ⟨st, w5, he5, hm5, hf5, hs5, hst5⟩ := MT5.entry kKey uBy (zInt wk.drew) (g, x)
              rw [cmK_get] at he5
              have hlk7 := hm5.lookup kKey uBy (zInt w5) (g, x) false
              have e7 : (updF (cmK Tk) (g, x) (some ((cmK Tk (g, x)).getD (.int .i64 0))) (g, x)).getD (.int .i64 0) = .int .i64 (Tk (g, x) : Int) := by rw [← cmK_get]; simp [updF]
              have hlk7' : (Instr.lookup 78 (.map (some bb)) (.agg #[.int .i64 g, .string x]) false).run Tryz.prog w5 = .ok (.int .i64 (Tk (g, x) : Int)) w5 := by rw [← e7]; exact hlk7
              have he5' : (Instr.mapEntry 78 (.map (some bb)) (.agg #[.int .i64 g, .string x])).run Tryz.prog wk.drew = .ok (.tuple #[.int .i64 (Tk (g, x) : Int), .int .i64 st]) w5 := he5
              obtain ⟨w6, hr6, m6, f6, s6⟩ := hst5 (.int .i64 ((Tk (g, x) : Int) - 1))
              have M6 := hid m6
              have F6 := hid f6
              have nbb : bX ≠ bb ∧ pK ≠ bb := by
                obtain ⟨n, m⟩ := X8.out.tal
                exact ⟨(m.ne_at XA.out).symm, (MT5.ne_at (K0.out.fr ((Fr.refl (fun _ => False) wk).drew) (fun h => h))).symm⟩
              have f45 : Fr (fun i => i = bb) wk w5 := ((Fr.refl (fun i => i = bb) wk).drew).trans hf5
              have g2 := (XB5.out.fr f45 nbb.1).c
              have gk0 := (K0.out.fr f45 nbb.2).c
              have gk1 := (K1.out.fr f45 nbb.2).c
              have F56 : Hid (Fr (fun i => i = bb) wk w6) := ((Fr.refl (fun i => i = bb) wk).drew).trans F6.out
              clear hlk7 e7 hm5 hf5 hs5 f45 hlk5 he5 hst5 m6 f6 s6 MT5
              have hTb : (Tk (g, x) : Int) ≤ 1000 := by have := HTB.out; omega
              have hTb0 : (1 : Int) ≤ (Tk (g, x) : Int) := by have := HTB.out; omega
              have c2 := XB5.out.c
              have k0 := K0.out.c
              have k1 := K1.out.c
              go_upto_region 12 with fail
              go_cut [] (fun wx => wx = w6)
              case first =>
                go_region
                all_goals go_wp2_with fail
                all_goals go_meet
                all_goals rfl
              case rest =>
                obtain rfl := hcut.symm
                clear hcut hlk5' hlk7' he5' hr6 c2 k0 k1 g2 gk0 gk1
                have XB6 := hid (XB5.out.fr F56.out nbb.1)
                have KA := hid (K0.out.fr F56.out nbb.2)
                have KB := hid (K1.out.fr F56.out nbb.2)
                have FA6 : Hid (Fr (fun i => i = bi ∨ i = bb ∨ i = b) wr w6) := by
                  have a1 : Fr (fun i => i = bi ∨ i = bb ∨ i = b) wr w8 := FW.out.mono (fun _ _ h => h.elim)
                  have a2 : Fr (fun i => i = bi ∨ i = bb ∨ i = b) w8 w2 := F2.out.mono (fun _ _ h => .inr (.inr h))
                  have a3 := (a1.trans a2).then FS3.out (fun i hi e => by have e' : i = pP := e; have := HPP.out; omega)
                  exact ((a3.trans F34.out).trans (FKK.out.mono (fun _ _ h => h.elim))).trans (F56.out.mono (fun _ _ h => .inr (.inl h)))
                have MI6 := hid ((M4.out.fr FKK.out (fun h => h)).fr F56.out X8.out.nb)
                have MS6 := hid ((MS4.out.fr FKK.out (fun h => h)).fr F56.out N8.out.2.2.2.2.2.2.2)
                have hlk8 := (M6.out.fr ((Fr.refl (fun _ => False) w6).drew) (fun h => h)).lookup kKey uBy (zInt w6.drew) (g, x) false
                have e8 : (updF (cmK Tk) (g, x) (some (.int .i64 ((Tk (g, x) : Int) - 1))) (g, x)).getD (.int .i64 0) = .int .i64 ((Tk (g, x) : Int) - 1) := by simp [updF]
                rw [e8] at hlk8
                have hlk8' : (Instr.lookup 78 (.map (some bb)) (.agg #[.int .i64 g, .string x]) false).run Tryz.prog w6.drew = .ok (.int .i64 ((Tk (g, x) : Int) - 1)) w6.drew := hlk8
                clear hlk8 e8
                have c2 := XB6.out.c
                have k0 := KA.out.c
                have k1 := KB.out.c
                go_upto_region 13 with fail
                go_cut [76] (fun v wx => v = .bool (((Tk (g, x) : Int) - 1) == 0) ∧ wx = w6.drew)
                case first =>
                  go_region
                  all_goals go_wp2_with fail
                  all_goals go_meet
                  all_goals exact ⟨rfl, rfl⟩
                case rest =>
                  obtain ⟨rfl, hwx⟩ := hcut
                  obtain rfl := hwx.symm
                  clear hwx hlk8' c2 k0 k1
                  have d6 := (Fr.refl (fun _ => False) w6).drew
                  by_cases hT1 : Tk (g, x) = 1
                  · have hz : ((Tk (g, x) : Int) - 1 == 0) = true := by simp; omega
                    have MT7 := (M6.out.fr d6 (fun h => h)).fr ((Fr.refl (fun _ => False) w6.drew).drew) (fun h => h)
                    obtain ⟨w7, hrun7, m7, f7, s7⟩ := MT7.delete (ty := 0) (kt' := 106) kKey uBy (g, x)
                    rw [cmK_del1 Tk g x _ hT1] at m7
                    have hrun7' : (Builtin.delete_ #[78, 106] 0 #[.map (some bb), .agg #[.int .i64 g, .string x]]).run Tryz.prog w6.drew.drew = .ok (.tuple #[]) w7 := hrun7
                    have d7 := (Fr.refl (fun _ => False) w6.drew).drew
                    have F7 : Fr (fun i => i = bi ∨ i = bb ∨ i = b) wr w7 := ((FA6.out.trans (d6.mono (fun _ _ h => h.elim))).trans (d7.mono (fun _ _ h => h.elim))).trans (f7.mono (fun _ _ h => .inr (.inl h)))
                    have HXN : Hid (XI w7 bi bb q (delP Dk id [x]) (delT Tk g [x])) := by
                      refine XK.out.less h1 h2 HNX.out (by rw [← HBQ.out]; exact F7) ⟨_, ((MI6.out.fr d6 (fun h => h)).fr d7 (fun h => h)).fr f7 X8.out.nb⟩ ⟨_, m7⟩ ?_
                      rw [← HBQ.out]
                      exact ((MS6.out.fr d6 (fun h => h)).fr d7 (fun h => h)).fr f7 N8.out.2.2.2.2.2.2.2
                    have HFN : Hid (Fr (XS bi bb q D) w1 w7) := by
                      refine FK.out.then F7 (fun i hi c => ?_)
                      rcases c with c | c | c
                      · exact .inl c
                      · exact .inr (.inl c)
                      · exact .inr (.inr ⟨x, HFX.out, by rw [c, HBQ.out]⟩)
                    clear hrun7 m7 f7 s7 F7 MT7
                    have c2 := ((XB6.out.fr d6 (fun h => h))).c
                    have k0 := ((KA.out.fr d6 (fun h => h))).c
                    have k1 := ((KB.out.fr d6 (fun h => h))).c
                    go_upto_region 14 with fail
                    go_region
                    all_goals go_wp2_with fail
                    all_goals exact ⟨⟨k + 1, by go_num, by omega, by rw [HE.out.1, HE.out.2]; exact HXN.out, HFN.out⟩, by simp [intOf]; omega⟩
                  · have hz : ((Tk (g, x) : Int) - 1 == 0) = false := by simp; omega
                    have m6 := M6.out
                    rw [cmK_del2 Tk g x (by omega)] at m6
                    have F7 : Fr (fun i => i = bi ∨ i = bb ∨ i = b) wr w6.drew := FA6.out.trans (d6.mono (fun _ _ h => h.elim))
                    have HXN : Hid (XI w6.drew bi bb q (delP Dk id [x]) (delT Tk g [x])) := by
                      refine XK.out.less h1 h2 HNX.out (by rw [← HBQ.out]; exact F7) ⟨_, MI6.out.fr d6 (fun h => h)⟩ ⟨_, m6.fr d6 (fun h => h)⟩ ?_
                      rw [← HBQ.out]
                      exact MS6.out.fr d6 (fun h => h)
                    have HFN : Hid (Fr (XS bi bb q D) w1 w6.drew) := by
                      refine FK.out.then F7 (fun i hi c => ?_)
                      rcases c with c | c | c
                      · exact .inl c
                      · exact .inr (.inl c)
                      · exact .inr (.inr ⟨x, HFX.out, by rw [c, HBQ.out]⟩)
                    clear m6 F7
                    go_wp2_with fail
                    exact ⟨⟨k + 1, by go_num, by omega, by rw [HE.out.1, HE.out.2]; exact HXN.out, HFN.out⟩, by simp [intOf]; omega⟩
        · have hz : ((fq Dk x : Int) - 1 == 0) = false := by simp; omega
          have hd0 : fq (delP Dk id [x]) x ≠ 0 := by have := fq_del h1 h2 HNX.out; omega
          obtain ⟨w4, hrun4, m4, f4, s4⟩ := MI3.update kStr uInv x (.agg #[.map (some b), .int .i64 ((fq Dk x : Int) - 1)])
          rw [HBQ.out, im_del h1 h2 HNX.out hd0] at m4
          have M4 := hid m4
          have F4 := hid f4
          clear m4 f4 s4 MI3 hone hd0
          have hrun4' : (Instr.mapUpdate 77 (.map (some bi)) (.string x) (.agg #[.map (some b), .int .i64 ((fq Dk x : Int) - 1)])).run Tryz.prog w3.drew = .ok () w4 := hrun4
          clear hrun4
          go_upto_region 10 with fail
          go_cut [] (fun wx => wx = w4)
          case first =>
            go_region
            all_goals go_wp2_with fail
            all_goals go_meet
            all_goals rfl
          case rest =>
            obtain rfl := hcut.symm
            clear hcut hrun4' y0 y1 c1 cw hz
            have dr := (Fr.refl (fun _ => False) w3).drew
            have hXb : bX ≠ bi := fun e => by obtain ⟨n, m⟩ := X8.out.inv; exact (m.ne_at XA.out) e.symm
            have hgb' : gv ≠ bi := fun e => by obtain ⟨n, m⟩ := X8.out.inv; exact (m.ne_at W8.out) e.symm
            have hpb : pd ≠ bi := fun e => by obtain ⟨n, m⟩ := X8.out.inv; exact (m.ne_at (D8.out 0 _ rfl)) e.symm
            have XB4 := hid ((XB3.out.fr dr (fun h => h)).fr F4.out hXb)
            have W4 := hid ((W3.out.fr dr (fun h => h)).fr F4.out hgb')
            have D4 := hid (fun q v hv => ((D3.out q v hv).fr dr (fun h => h)).fr F4.out hpb)
            have MT4 := hid (MT3.out.fr F4.out X8.out.nb.symm)
            have MS4 := hid (MS3.out.fr F4.out N8.out.2.2.2.2.2.2.1)
            have F34 : Hid (Fr (fun i => i = bi ∨ i = bb ∨ i = b) w3 w4) := (dr.mono (fun _ _ h => h.elim)).trans (F4.out.mono (fun _ _ h => .inl h))
            have lg4 := W4.out.lt
            have lp4 := (D4.out 1 _ rfl).lt
            have c3 := (D4.out 1 _ rfl).c
            have cw := W4.out.c
            go_upto_region 11 with fail
            go_cut [7] (fun p wx => ∃ pK, p = .pointer (some ⟨pK, 0, none⟩) ∧ pK = w4.heap.size ∧ At wx pK 0 (.int .i64 g) ∧ At wx pK 1 (.string x) ∧ Fr (fun _ => False) w4 wx)
            case first =>
              go_region
              all_goals go_wp2_with fail
              all_goals go_meet
              all_goals exact ⟨_, rfl, rfl, (At.new w4 _ _ rfl).drew, (At.new w4 _ _ rfl).drew, ((Fr.refl _ _).alloc _).drew⟩
            case rest =>
              obtain ⟨pK, rfl, hpK, k0, k1, fk⟩ := hcut
              have K0 := hid k0
              have K1 := hid k1
              have FKK := hid fk
              have HPK : Hid (pK = w4.heap.size) := hpK
              clear hpK
              clear k0 k1 fk c3 cw lg4 lp4
              obtain ⟨wk, hwk⟩ : ∃ wk, wk = wc := ⟨_, rfl⟩
              rw [← hwk] at K0 K1 FKK ⊢
              clear hwk
              have MT5 := (MT4.out.fr FKK.out (fun h => h)).fr ((Fr.refl (fun _ => False) wk).drew) (fun h => h)
              have XB5 := hid (XB4.out.fr FKK.out (fun h => h))
              have hlk5 := MT5.lookup kKey uBy (zInt wk.drew) (g, x) false
              rw [cmK_get] at hlk5
              have hlk5' : (Instr.lookup 78 (.map (some bb)) (.agg #[.int .i64 g, .string x]) false).run Tryz.prog wk.drew = .ok (.int .i64 (Tk (g, x) : Int)) wk.drew := hlk5
              obtain ⟨st, w5, he5, hm5, hf5, hs5, hst5⟩ := MT5.entry kKey uBy (zInt wk.drew) (g, x)
              rw [cmK_get] at he5
              have hlk7 := hm5.lookup kKey uBy (zInt w5) (g, x) false
              have e7 : (updF (cmK Tk) (g, x) (some ((cmK Tk (g, x)).getD (.int .i64 0))) (g, x)).getD (.int .i64 0) = .int .i64 (Tk (g, x) : Int) := by rw [← cmK_get]; simp [updF]
              have hlk7' : (Instr.lookup 78 (.map (some bb)) (.agg #[.int .i64 g, .string x]) false).run Tryz.prog w5 = .ok (.int .i64 (Tk (g, x) : Int)) w5 := by rw [← e7]; exact hlk7
              have he5' : (Instr.mapEntry 78 (.map (some bb)) (.agg #[.int .i64 g, .string x])).run Tryz.prog wk.drew = .ok (.tuple #[.int .i64 (Tk (g, x) : Int), .int .i64 st]) w5 := he5
              obtain ⟨w6, hr6, m6, f6, s6⟩ := hst5 (.int .i64 ((Tk (g, x) : Int) - 1))
              have M6 := hid m6
              have F6 := hid f6
              have nbb : bX ≠ bb ∧ pK ≠ bb := by
                obtain ⟨n, m⟩ := X8.out.tal
                exact ⟨(m.ne_at XA.out).symm, (MT5.ne_at (K0.out.fr ((Fr.refl (fun _ => False) wk).drew) (fun h => h))).symm⟩
              have f45 : Fr (fun i => i = bb) wk w5 := ((Fr.refl (fun i => i = bb) wk).drew).trans hf5
              have g2 := (XB5.out.fr f45 nbb.1).c
              have gk0 := (K0.out.fr f45 nbb.2).c
              have gk1 := (K1.out.fr f45 nbb.2).c
              have F56 : Hid (Fr (fun i => i = bb) wk w6) := ((Fr.refl (fun i => i = bb) wk).drew).trans F6.out
              clear hlk7 e7 hm5 hf5 hs5 f45 hlk5 he5 hst5 m6 f6 s6 MT5
              have hTb : (Tk (g, x) : Int) ≤ 1000 := by have := HTB.out; omega
              have hTb0 : (1 : Int) ≤ (Tk (g, x) : Int) := by have := HTB.out; omega
              have c2 := XB5.out.c
              have k0 := K0.out.c
              have k1 := K1.out.c
              go_upto_region 12 with fail
              go_cut [] (fun wx => wx = w6)
              case first =>
                go_region
                all_goals go_wp2_with fail
                all_goals go_meet
                all_goals rfl
              case rest =>
                obtain rfl := hcut.symm
                clear hcut hlk5' hlk7' he5' hr6 c2 k0 k1 g2 gk0 gk1
                have XB6 := hid (XB5.out.fr F56.out nbb.1)
                have KA := hid (K0.out.fr F56.out nbb.2)
                have KB := hid (K1.out.fr F56.out nbb.2)
                have FA6 : Hid (Fr (fun i => i = bi ∨ i = bb ∨ i = b) wr w6) := by
                  have a1 : Fr (fun i => i = bi ∨ i = bb ∨ i = b) wr w8 := FW.out.mono (fun _ _ h => h.elim)
                  have a2 : Fr (fun i => i = bi ∨ i = bb ∨ i = b) w8 w2 := F2.out.mono (fun _ _ h => .inr (.inr h))
                  have a3 := (a1.trans a2).then FS3.out (fun i hi e => by have e' : i = pP := e; have := HPP.out; omega)
                  exact ((a3.trans F34.out).trans (FKK.out.mono (fun _ _ h => h.elim))).trans (F56.out.mono (fun _ _ h => .inr (.inl h)))
                have MI6 := hid ((M4.out.fr FKK.out (fun h => h)).fr F56.out X8.out.nb)
                have MS6 := hid ((MS4.out.fr FKK.out (fun h => h)).fr F56.out N8.out.2.2.2.2.2.2.2)
                have hlk8 := (M6.out.fr ((Fr.refl (fun _ => False) w6).drew) (fun h => h)).lookup kKey uBy (zInt w6.drew) (g, x) false
                have e8 : (updF (cmK Tk) (g, x) (some (.int .i64 ((Tk (g, x) : Int) - 1))) (g, x)).getD (.int .i64 0) = .int .i64 ((Tk (g, x) : Int) - 1) := by simp [updF]
                rw [e8] at hlk8
                have hlk8' : (Instr.lookup 78 (.map (some bb)) (.agg #[.int .i64 g, .string x]) false).run Tryz.prog w6.drew = .ok (.int .i64 ((Tk (g, x) : Int) - 1)) w6.drew := hlk8
                clear hlk8 e8
                have c2 := XB6.out.c
                have k0 := KA.out.c
                have k1 := KB.out.c
                go_upto_region 13 with fail
                go_cut [76] (fun v wx => v = .bool (((Tk (g, x) : Int) - 1) == 0) ∧ wx = w6.drew)
                case first =>
                  go_region
                  all_goals go_wp2_with fail
                  all_goals go_meet
                  all_goals exact ⟨rfl, rfl⟩
                case rest =>
                  obtain ⟨rfl, hwx⟩ := hcut
                  obtain rfl := hwx.symm
                  clear hwx hlk8' c2 k0 k1
                  have d6 := (Fr.refl (fun _ => False) w6).drew
                  by_cases hT1 : Tk (g, x) = 1
                  · have hz : ((Tk (g, x) : Int) - 1 == 0) = true := by simp; omega
                    have MT7 := (M6.out.fr d6 (fun h => h)).fr ((Fr.refl (fun _ => False) w6.drew).drew) (fun h => h)
                    obtain ⟨w7, hrun7, m7, f7, s7⟩ := MT7.delete (ty := 0) (kt' := 106) kKey uBy (g, x)
                    rw [cmK_del1 Tk g x _ hT1] at m7
                    have hrun7' : (Builtin.delete_ #[78, 106] 0 #[.map (some bb), .agg #[.int .i64 g, .string x]]).run Tryz.prog w6.drew.drew = .ok (.tuple #[]) w7 := hrun7
                    have d7 := (Fr.refl (fun _ => False) w6.drew).drew
                    have F7 : Fr (fun i => i = bi ∨ i = bb ∨ i = b) wr w7 := ((FA6.out.trans (d6.mono (fun _ _ h => h.elim))).trans (d7.mono (fun _ _ h => h.elim))).trans (f7.mono (fun _ _ h => .inr (.inl h)))
                    have HXN : Hid (XI w7 bi bb q (delP Dk id [x]) (delT Tk g [x])) := by
                      refine XK.out.less h1 h2 HNX.out (by rw [← HBQ.out]; exact F7) ⟨_, ((MI6.out.fr d6 (fun h => h)).fr d7 (fun h => h)).fr f7 X8.out.nb⟩ ⟨_, m7⟩ ?_
                      rw [← HBQ.out]
                      exact ((MS6.out.fr d6 (fun h => h)).fr d7 (fun h => h)).fr f7 N8.out.2.2.2.2.2.2.2
                    have HFN : Hid (Fr (XS bi bb q D) w1 w7) := by
                      refine FK.out.then F7 (fun i hi c => ?_)
                      rcases c with c | c | c
                      · exact .inl c
                      · exact .inr (.inl c)
                      · exact .inr (.inr ⟨x, HFX.out, by rw [c, HBQ.out]⟩)
                    clear hrun7 m7 f7 s7 F7 MT7
                    have c2 := ((XB6.out.fr d6 (fun h => h))).c
                    have k0 := ((KA.out.fr d6 (fun h => h))).c
                    have k1 := ((KB.out.fr d6 (fun h => h))).c
                    go_upto_region 14 with fail
                    go_region
                    all_goals go_wp2_with fail
                    all_goals exact ⟨⟨k + 1, by go_num, by omega, by rw [HE.out.1, HE.out.2]; exact HXN.out, HFN.out⟩, by simp [intOf]; omega⟩
                  · have hz : ((Tk (g, x) : Int) - 1 == 0) = false := by simp; omega
                    have m6 := M6.out
                    rw [cmK_del2 Tk g x (by omega)] at m6
                    have F7 : Fr (fun i => i = bi ∨ i = bb ∨ i = b) wr w6.drew := FA6.out.trans (d6.mono (fun _ _ h => h.elim))
                    have HXN : Hid (XI w6.drew bi bb q (delP Dk id [x]) (delT Tk g [x])) := by
                      refine XK.out.less h1 h2 HNX.out (by rw [← HBQ.out]; exact F7) ⟨_, MI6.out.fr d6 (fun h => h)⟩ ⟨_, m6.fr d6 (fun h => h)⟩ ?_
                      rw [← HBQ.out]
                      exact MS6.out.fr d6 (fun h => h)
                    have HFN : Hid (Fr (XS bi bb q D) w1 w6.drew) := by
                      refine FK.out.then F7 (fun i hi c => ?_)
                      rcases c with c | c | c
                      · exact .inl c
                      · exact .inr (.inl c)
                      · exact .inr (.inr ⟨x, HFX.out, by rw [c, HBQ.out]⟩)
                    clear m6 F7
                    go_wp2_with fail
                    exact ⟨⟨k + 1, by go_num, by omega, by rw [HE.out.1, HE.out.2]; exact HXN.out, HFN.out⟩, by simp [intOf]; omega⟩
    · have hgeI : ¬ (k : Int) < (l.length : Int) := by omega
      have hlb : (l.length : Int) ≤ 2000 := by omega
      have HE : Hid (l.take k = l) := List.take_of_length_le (by omega)
      rw [HE.out] at XK
      go_wp2_with fail
      go_end0
      rw [← HLS.out]
      exact ⟨rfl, XK.out, (F1.out.mono (fun _ _ h => h.elim)).trans FK.out⟩

end Go.Proofs.Qxb6500450aGreat
