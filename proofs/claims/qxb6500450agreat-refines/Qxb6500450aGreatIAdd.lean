/- The index: add. -/
import Derived.Test.Qxb6500450aGreatIRep
namespace Go.Proofs.Qxb6500450aGreat
open Go Go.RowKit
set_option maxRecDepth 100000
set_option maxHeartbeats 1600000
set_option linter.unusedSimpArgs false
set_option linter.unusedVariables false

theorem take_succ_getD (l : List ByteArray) (k : Nat) (h : k < l.length) : l.take (k + 1) = l.take k ++ [l.getD k ⟨#[]⟩] := by
  rw [List.take_succ_eq_append_getElem h]
  simp [List.getD, h]
theorem nodup_take {l : List ByteArray} (hn : l.Nodup) {k : Nat} (h : k < l.length) : l.getD k ⟨#[]⟩ ∉ l.take k := by
  have h2 := hn.sublist (List.take_sublist (k + 1) l)
  rw [take_succ_getD l k h, List.nodup_append] at h2
  intro c
  exact h2.2.2 _ c _ (List.mem_singleton.2 rfl) rfl
theorem getD_mem {l : List ByteArray} {k : Nat} (h : k < l.length) : l.getD k ⟨#[]⟩ ∈ l := by
  simp [List.getD, h]

theorem add_any {w : World} {bX bi bb : Nat} {q : ByteArray → Nat} {D : PostF} {T : TalF} {id g : Int} {t : ByteArray} (x1 : At w bX 1 (.map (some bi))) (x2 : At w bX 2 (.map (some bb))) (h : XI w bi bb q D T) (h1 : 1 ≤ id) (h2 : id ≤ 9) (ht : t.size ≤ 1000) (hD : ∀ y ∈ runs t, D y id = false) (hT : ∀ k, T k ≤ 1000) :
    Calls Tryz.prog 79 #[.pointer (some ⟨bX, 0, none⟩), docV id g t] w fun e w' => e = .returned (.tuple #[]) ∧ (∃ q', XI w' bi bb q' (addD D id (splitL t)) (addT T g (splitL t)) ∧ ∀ y, fq (addD D id (splitL t)) y ≠ 0 → (fq D y ≠ 0 ∧ q' y = q y) ∨ w.heap.size ≤ q' y) ∧ Fr (XS bi bb q D) w w' := by
  have H := hid h
  have X1 := hid x1
  have X2 := hid x2
  have HD := hid hD
  have HTL := hid hT
  have HLT := hid h.lt
  have NX : Hid (¬ XS bi bb q D bX) := by
    rintro (c | c | ⟨y, hy, c⟩)
    · obtain ⟨n, m⟩ := h.inv; exact (m.ne_at x1) c.symm
    · obtain ⟨n, m⟩ := h.tal; exact (m.ne_at x1) c.symm
    · exact ((h.set y hy).ne_at x1) c.symm
  have hbX := x1.lt
  clear h x1 x2 hD hT
  simp only [docV]
  go_enter Tryz.func79, Tryz.ntmps79
  go_upto_region 1 with fail
  have FA := hid ((Fr.refl (fun _ => False) w).alloc (.cells #[.int .i64 id, .int .i64 g, .string t] 112))
  have PD : Hid (∀ q v, (#[.int .i64 id, .int .i64 g, .string t] : Array Value)[q]? = some v → At (w.alloc (.cells #[.int .i64 id, .int .i64 g, .string t] 112)) w.heap.size q v) := fun q v hv => At.new w _ _ hv
  have hz0 : (w.alloc (.cells #[.int .i64 id, .int .i64 g, .string t] 112)).heap.size = w.heap.size + 1 := by simp
  generalize w.alloc (.cells #[.int .i64 id, .int .i64 g, .string t] 112) = w0 at *
  obtain ⟨pd, hpd⟩ : ∃ pd, pd = w.heap.size := ⟨_, rfl⟩
  rw [← hpd] at PD hz0 HLT hbX ⊢
  have HPD := hid hpd
  have HZ0 := hid hz0
  clear hpd hz0
  have d2 := (PD.out 2 _ rfl).c
  go_wp2_with fail
  refine (split_any ht w0).mono ?_
  rintro e w1 ⟨v, rfl, ow, f1⟩
  have OW := hid ow
  have F1 := hid (FA.out.trans f1)
  have PD1 := hid (fun q v hv => (PD.out q v hv).fr f1 (fun h => h))
  have HZ1 := hid f1.size
  clear ow f1 d2 PD
  have HX1 := hid (H.out.fr F1.out (fun _ _ h => h))
  have HL : Hid ((splitL t).Nodup ∧ ∀ y ∈ splitL t, D y id = false) := ⟨splitL_nodup t, fun y hy => HD.out y ((splitL_mem t y).1 hy)⟩
  have hll := splitL_len t
  obtain ⟨l, hl⟩ : ∃ l, l = splitL t := ⟨_, rfl⟩
  rw [← hl] at OW HL hll
  have HLS := hid hl
  clear hl
  obtain ⟨va, vc, hv⟩ := OW.out.form
  subst hv
  go_wp2_with fail
  go_loopw [5] (fun b wr => ∃ (k : Nat) (q' : ByteArray → Nat), b = .int .i64 k ∧ k ≤ l.length ∧ XI wr bi bb q' (addD D id (l.take k)) (addT T g (l.take k)) ∧ Fr (XS bi bb q D) w1 wr ∧ (∀ y, fq (addD D id (l.take k)) y ≠ 0 → (fq D y ≠ 0 ∧ q' y = q y) ∨ w1.heap.size ≤ q' y)) (fun b _ => l.length - (intOf b).toNat)
  case atStart => exact ⟨0, q, rfl, by omega, by simp only [List.take_zero, addD_nil, addT_nil]; exact HX1.out, Fr.refl _ _, by simp only [List.take_zero, addD_nil]; exact fun y hy => .inl ⟨hy, by first | exact trivial | rfl⟩⟩
  case round =>
    clear HX1
    obtain ⟨k, q', rfl, hk, xi, fr, hgr⟩ := hrel
    have XK := hid xi
    have FK := hid fr
    have GR := hid hgr
    clear xi fr hgr
    have hk0 : (0 : Int) ≤ (k : Int) := by omega
    have hkb : (k : Int) ≤ 2000 := by omega
    by_cases hlt : k < l.length
    · have hltI : (k : Int) < (l.length : Int) := by omega
      have hlb : (l.length : Int) ≤ 2000 := by omega
      rcases OW.out.empty with ⟨_, hn⟩ | ⟨gv, cv, hv, hgb, hgl⟩
      · rw [hn] at hlt; simp at hlt
      cases hv
      have NG : Hid (¬ XS bi bb q D gv) := fun c => by have := HLT.out _ c; have := HZ0.out; omega
      have ND : Hid (¬ XS bi bb q D pd) := fun c => by have := HLT.out _ c; omega
      have CW := hid ((OW.out.cell rfl hlt).fr FK.out NG.out)
      have e1 := take_succ_getD l k hlt
      have HNX : Hid (addD D id (l.take k) (l.getD k ⟨#[]⟩) id = false) := by
        have h1 := nodup_take HL.out.1 hlt
        have h2 := HL.out.2 _ (getD_mem hlt)
        unfold Hid addD
        rw [h2]
        simp
        simpa [List.getD] using h1
      have HNM := hid (nodup_take HL.out.1 hlt)
      have HE : Hid (addD D id (l.take (k + 1)) = addD (addD D id (l.take k)) id [l.getD k ⟨#[]⟩] ∧ addT T g (l.take (k + 1)) = addT (addT T g (l.take k)) g [l.getD k ⟨#[]⟩]) := by
        rw [e1]; exact ⟨addD_snoc _ _ _ _, addT_snoc _ _ HNM.out⟩
      have HTB : Hid (addT T g (l.take k) (g, l.getD k ⟨#[]⟩) ≤ 1001) := by
        unfold Hid addT
        have := HTL.out (g, l.getD k ⟨#[]⟩)
        split <;> omega
      clear e1 HNM
      generalize l.getD k ⟨#[]⟩ = x at *
      generalize addD D id (l.take k) = Dk at *
      generalize addT T g (l.take k) = Tk at *
      have c1 := (X1.out.fr F1.out (fun h => h)).fr FK.out NX.out |>.c
      have cw := CW.out.c
      have lx := ((X1.out.fr F1.out (fun h => h)).fr FK.out NX.out).lt
      have lg := CW.out.lt
      have lp := ((PD1.out 0 _ rfl).fr FK.out ND.out).lt
      obtain ⟨ni, MI⟩ := XK.out.inv
      have MI := hid MI
      have HF0 : Hid (im q' Dk x = if fq Dk x = 0 then none else some (.agg #[.map (some (q' x)), .int .i64 (fq Dk x : Int)])) := rfl
      by_cases hf0 : fq Dk x = 0
      · have hlk : ∀ W, MapF sk W bi (im q' Dk) ni → (Instr.lookup 77 (.map (some bi)) (.string x) false).run Tryz.prog W = .ok (.agg #[.map none, .int .i64 0]) W := fun W hm => by
          have := hm.lookup kStr uInv (zPost W) x false
          have e : im q' Dk x = none := by unfold im; rw [if_pos hf0]
          rw [e] at this
          exact this
        have fz := (Fr.refl (fun _ => False) wr).alloc (.cells #[.map none, .int .i64 0] 117)
        have l1 := hlk wr MI.out
        have l2 := hlk wr.drew (MI.out.fr ((Fr.refl (fun _ => False) wr).drew) (fun h => h))
        have l3 := hlk (wr.alloc (.cells #[.map none, .int .i64 0] 117)) (MI.out.fr fz (fun h => h))
        have l4 := hlk (wr.alloc (.cells #[.map none, .int .i64 0] 117)).drew (MI.out.fr fz.drew (fun h => h))
        clear hlk fz
        go_upto_region 5 with fail
        go_cut [6] (fun p wx => ∃ pP, p = .pointer (some ⟨pP, 0, none⟩) ∧ pP = wr.heap.size ∧ At wx pP 0 (.map none) ∧ At wx pP 1 (.int .i64 0) ∧ Fr (fun _ => False) wr wx)
        case first =>
          go_region
          all_goals go_wp2_with fail
          all_goals go_meet
          all_goals exact ⟨_, rfl, rfl, (At.new wr _ _ rfl).drew, (At.new wr _ _ rfl).drew, ((Fr.refl _ _).alloc _).drew⟩
        case rest =>
          obtain ⟨pP, rfl, hpP, b0, b1, fb⟩ := hcut
          have heq0 : ∀ W, (binOp BinOp.eql 85 (.map none) (.map none)).run Tryz.prog W = .ok (.bool true) W := fun W => by kernel_rfl
          have heq1 : ∀ b W, (binOp BinOp.eql 85 (.map (some b)) (.map none)).run Tryz.prog W = .ok (.bool false) W := fun b W => by kernel_rfl
          have B0 := hid b0
          have B1 := hid b1
          have FB := hid fb
          have HPP : Hid (pP = wr.heap.size) := hpP
          clear b0 b1 fb hpP l1 l2 l3 l4 c1 cw
          have y0 := B0.out.c
          have y1 := B1.out.c
          have z0 := B0.out.f
          have lpp := B0.out.lt
          have m2 := @run_makeMap Tryz.prog
          go_upto_region 8 with fail
          clear m2
          obtain ⟨b, hb⟩ : ∃ b, b = wc.heap.size := ⟨_, rfl⟩
          rw [← hb] at lpp ⊢
          have FS : Hid (Fr (fun i => i = pP) wc (wc.setCell ⟨pP, 0, none⟩ (.map (some b)))) := (Fr.refl (fun i => i = pP) wc).setCell (p := ⟨pP, 0, none⟩) (fun _ => rfl) _
          have ME := MapF.new ik (wc.setCell ⟨pP, 0, none⟩ (.map (some b)))
          have hsz : (wc.setCell ⟨pP, 0, none⟩ (.map (some b))).heap.size = b := by rw [hb]; simp
          rw [hsz] at ME
          have ME := hid ME
          have C0' := hid (B0.out.same (.map (some b)))
          have C1' := hid (B1.out.other (b' := pP) (o' := 0) (by omega) (.map (some b)))
          have hbp : b ≠ pP := by omega
          have HBW : Hid (wr.heap.size ≤ b) := by have := FB.out.size; unfold Hid; omega
          clear hsz
          generalize wc.setCell ⟨pP, 0, none⟩ (.map (some b)) = wy at *
          have FM : Hid (Fr (fun _ => False) wy (wy.alloc (.map #[] 0))) := (Fr.refl _ _).alloc _
          have C0 := hid (C0'.out.fr FM.out (fun h => h))
          have C1 := hid (C1'.out.fr FM.out (fun h => h))
          have MS : Hid (MapF ik (wy.alloc (.map #[] 0)) b (sm (Dk x)) (fq Dk x)) := by
            have e : sm (Dk x) = fun _ => none := by
              funext i
              unfold sm
              by_cases c : Dk x i = true
              · exfalso
                have hs := XK.out.sup x i c
                have : fq Dk x ≠ 0 := by
                  unfold fq
                  intro h0
                  rw [List.countP_eq_zero] at h0
                  exact h0 i (mem_nine hs.1 hs.2) c
                exact this hf0
              · rw [if_neg c]
            rw [e, hf0]
            exact ME.out
          have FW : Hid (Fr (fun _ => False) wr (wy.alloc (.map #[] 0))) := (FB.out.then FS.out (fun i hi e => by have e' : i = pP := e; have := HPP.out; omega)).trans FM.out
          have HBB : Hid ((fq Dk x ≠ 0 ∧ b = q' x) ∨ (fq Dk x = 0 ∧ wr.heap.size ≤ b)) := .inr ⟨hf0, HBW.out⟩
          rw [← (show ((fq Dk x : Nat) : Int) = 0 by rw [hf0]; rfl)] at C1
          clear y0 y1 z0 lpp hb ME FM C0' C1' FS B0 B1 FB HBW hf0
          generalize wy.alloc (.map #[] 0) = w8 at *
          have X8 := hid (XK.out.fr FW.out (fun _ _ h => h))
          have D8 := hid (fun q v hv => ((PD1.out q v hv).fr FK.out ND.out).fr FW.out (fun h => h))
          have W8 := hid (CW.out.fr FW.out (fun h => h))
          have XA := hid (((X1.out.fr F1.out (fun h => h)).fr FK.out NX.out).fr FW.out (fun h => h))
          have XB := hid (((X2.out.fr F1.out (fun h => h)).fr FK.out NX.out).fr FW.out (fun h => h))
          have N8 : Hid (pP ≠ pd ∧ pP ≠ gv ∧ pP ≠ bX ∧ b ≠ pd ∧ b ≠ gv ∧ b ≠ bX ∧ b ≠ bi ∧ b ≠ bb) := by
            have := HPP.out
            refine ⟨by omega, by omega, by omega, MS.out.ne_at (D8.out 0 _ rfl), MS.out.ne_at W8.out, MS.out.ne_at XA.out, ?_, ?_⟩
            · rcases HBB.out with ⟨e1, e2⟩ | ⟨_, e2⟩
              · rw [e2]; exact (XK.out.ni x e1).1
              · have := XK.out.lt bi (.inl rfl); omega
            · rcases HBB.out with ⟨e1, e2⟩ | ⟨_, e2⟩
              · rw [e2]; exact (XK.out.ni x e1).2
              · have := XK.out.lt bb (.inr (.inl rfl)); omega
          have y0 := C0.out.c
          have i0 := (D8.out 0 _ rfl).c
          go_upto_region 9 with (first
            | (at_mapUpdate; refine wp_upd rfl rfl kInt uSet MS.out rfl (k := id) rfl (u := .bool true) rfl ?_; intro w2 hm2 hf2 hs2)
            | go_in)
          have hno : (sm (Dk x) id).isSome = false := by unfold sm; rw [HNX.out]; rfl
          rw [sm_add, hno] at hm2
          simp only [Bool.false_eq_true, if_false] at hm2
          have MS2 := hid hm2
          have F2 := hid hf2
          have Z2 := hid hs2
          clear hm2 hf2 hs2 hno y0 i0
          have E1 := hid (C1.out.fr F2.out hbp.symm)
          have E0 := hid (C0.out.fr F2.out hbp.symm)
          have y1 := E1.out.c
          have z1 := E1.out.f
          have hfq : (fq Dk x : Int) ≤ 9 := by have := fq_le Dk x; omega
          have hfq0 : (0 : Int) ≤ (fq Dk x : Int) := by omega
          go_upto_region 10 with fail
          have FS3 : Hid (Fr (fun i => i = pP) w2 (w2.setCell ⟨pP, 1, none⟩ (.int .i64 ((fq Dk x : Int) + 1)))) := (Fr.refl (fun i => i = pP) w2).setCell (p := ⟨pP, 1, none⟩) (fun _ => rfl) _
          have G0 := hid (E0.out.other (b' := pP) (o' := 1) (by omega) (.int .i64 ((fq Dk x : Int) + 1)))
          have G1 := hid (E1.out.same (.int .i64 ((fq Dk x : Int) + 1)))
          clear y1 z1 E0 E1
          generalize w2.setCell ⟨pP, 1, none⟩ (.int .i64 ((fq Dk x : Int) + 1)) = w3 at *
          have F3 : Hid (Fr (fun i => i = b ∨ i = pP) w8 w3) := (F2.out.mono (fun i _ h => Or.inl h)).trans (FS3.out.mono (fun i _ h => Or.inr h))
          have nn : ∀ i, i ≠ b → i ≠ pP → ¬ (i = b ∨ i = pP) := fun i h1 h2 => fun c => c.elim h1 h2
          have XA3 := hid (XA.out.fr F3.out (nn _ N8.out.2.2.2.2.2.1.symm N8.out.2.2.1.symm))
          have XB3 := hid (XB.out.fr F3.out (nn _ N8.out.2.2.2.2.2.1.symm N8.out.2.2.1.symm))
          have W3 := hid (W8.out.fr F3.out (nn _ N8.out.2.2.2.2.1.symm N8.out.2.1.symm))
          have D3 := hid (fun q v hv => (D8.out q v hv).fr F3.out (nn _ N8.out.2.2.2.1.symm N8.out.1.symm))
          have hbip : bi ≠ pP ∧ bb ≠ pP := by have := XK.out.lt bi (.inl rfl); have := XK.out.lt bb (.inr (.inl rfl)); have := HPP.out; omega
          obtain ⟨n3, MI3⟩ := X8.out.inv
          obtain ⟨m3, MT3⟩ := X8.out.tal
          have MI3 := (MI3.fr F3.out (nn _ N8.out.2.2.2.2.2.2.1.symm hbip.1)).fr ((Fr.refl (fun _ => False) w3).drew) (fun h => h)
          have MT3 := hid ((MT3.fr F3.out (nn _ N8.out.2.2.2.2.2.2.2.symm hbip.2)).fr ((Fr.refl (fun _ => False) w3).drew) (fun h => h))
          have MS3 := hid ((MS2.out.fr FS3.out hbp).fr ((Fr.refl (fun _ => False) w3).drew) (fun h => h))
          obtain ⟨w4, hrun4, m4, f4, s4⟩ := MI3.update kStr uInv x (.agg #[.map (some b), .int .i64 ((fq Dk x : Int) + 1)])
          rw [im_add h1 h2 HNX.out] at m4
          have M4 := hid m4
          have F4 := hid f4
          have S4 := hid s4
          clear m4 f4 s4 MI3 nn
          have hrun4' : (Instr.mapUpdate 77 (.map (some bi)) (.string x) (.agg #[.map (some b), .int .i64 ((fq Dk x : Int) + 1)])).run Tryz.prog w3.drew = .ok () w4 := hrun4
          clear hrun4
          have y0 := G0.out.c
          have y1 := G1.out.c
          have c1 := XA3.out.c
          have cw := W3.out.c
          go_cut [] (fun wx => wx = w4)
          case first =>
            go_region
            all_goals go_wp2_with fail
            all_goals go_meet
            all_goals rfl
          case rest =>
            obtain rfl := hcut.symm
            clear hcut hrun4' y0 y1 c1 cw
            have nbi : ∀ i, i ≠ bi → ¬ (fun j => j = bi) i := fun i h => h
            have dr := (Fr.refl (fun _ => False) w3).drew
            have hXb : bX ≠ bi := fun e => by obtain ⟨n, m⟩ := X8.out.inv; exact (m.ne_at XA.out) e.symm
            have hgb' : gv ≠ bi := fun e => by obtain ⟨n, m⟩ := X8.out.inv; exact (m.ne_at W8.out) e.symm
            have hpb : pd ≠ bi := fun e => by obtain ⟨n, m⟩ := X8.out.inv; exact (m.ne_at (D8.out 0 _ rfl)) e.symm
            have XB4 := hid ((XB3.out.fr dr (fun h => h)).fr F4.out hXb)
            have W4 := hid ((W3.out.fr dr (fun h => h)).fr F4.out hgb')
            have D4 := hid (fun q v hv => ((D3.out q v hv).fr dr (fun h => h)).fr F4.out hpb)
            have MT4 := (MT3.out.fr F4.out X8.out.nb.symm).fr ((Fr.refl (fun _ => False) w4).drew) (fun h => h)
            have MS4 := hid ((MS3.out.fr F4.out N8.out.2.2.2.2.2.2.1).fr ((Fr.refl (fun _ => False) w4).drew) (fun h => h))
            have MI4 := hid (M4.out.fr ((Fr.refl (fun _ => False) w4).drew) (fun h => h))
            have hlk5 := MT4.lookup kKey uBy (zInt w4.drew) (g, x) false
            rw [cmK_get] at hlk5
            have hlk5' : (Instr.lookup 78 (.map (some bb)) (.agg #[.int .i64 g, .string x]) false).run Tryz.prog w4.drew = .ok (.int .i64 (Tk (g, x) : Int)) w4.drew := hlk5
            obtain ⟨st, w5, he5, hm5, hf5, hs5, hst5⟩ := MT4.entry kKey uBy (zInt w4.drew) (g, x)
            have hlk7 := hm5.lookup kKey uBy (zInt w5) (g, x) false
            have e7 : (updF (cmK Tk) (g, x) (some ((cmK Tk (g, x)).getD (.int .i64 0))) (g, x)).getD (.int .i64 0) = .int .i64 (Tk (g, x) : Int) := by rw [← cmK_get]; simp [updF]
            have hlk7' : (Instr.lookup 78 (.map (some bb)) (.agg #[.int .i64 g, .string x]) false).run Tryz.prog w5 = .ok (.int .i64 (Tk (g, x) : Int)) w5 := by rw [← e7]; exact hlk7
            have nbb : bX ≠ bb ∧ gv ≠ bb ∧ pd ≠ bb := by
              obtain ⟨n, m⟩ := X8.out.tal
              exact ⟨(m.ne_at XA.out).symm, (m.ne_at W8.out).symm, (m.ne_at (D8.out 0 _ rfl)).symm⟩
            have f45 : Fr (fun i => i = bb) w4 w5 := ((Fr.refl (fun i => i = bb) w4).drew).trans hf5
            have g2 := (XB4.out.fr f45 nbb.1).c
            have g3 := ((D4.out 1 _ rfl).fr f45 nbb.2.2).c
            have gw := (W4.out.fr f45 nbb.2.1).c
            clear hlk7 e7 hm5 hf5 hs5 f45
            rw [cmK_get] at he5
            have he5' : (Instr.mapEntry 78 (.map (some bb)) (.agg #[.int .i64 g, .string x])).run Tryz.prog w4.drew = .ok (.tuple #[.int .i64 (Tk (g, x) : Int), .int .i64 st]) w5 := he5
            obtain ⟨w6, hr6, m6, f6, s6⟩ := hst5 (.int .i64 ((Tk (g, x) : Int) + 1))
            rw [cmK_add] at m6
            have M6 := hid m6
            have F6 := hid f6
            clear hlk5 he5 hst5 m6 f6 s6 MT4
            have hTb : (Tk (g, x) : Int) ≤ 1001 := by have := HTB.out; omega
            have hTb0 : (0 : Int) ≤ (Tk (g, x) : Int) := by omega
            have c2 := XB4.out.c
            have cw := W4.out.c
            have c3 := (D4.out 1 _ rfl).c
            go_upto_region 11 with fail
            have FZ : Fr (fun i => i = bi ∨ i = bb ∨ i = b) wr w6 := by
              have a1 : Fr (fun i => i = bi ∨ i = bb ∨ i = b) wr w8 := FW.out.mono (fun _ _ h => h.elim)
              have a2 : Fr (fun i => i = bi ∨ i = bb ∨ i = b) w8 w2 := F2.out.mono (fun _ _ h => .inr (.inr h))
              have a3 := (a1.trans a2).then FS3.out (fun i hi e => by have e' : i = pP := e; have := HPP.out; omega)
              have a4 : Fr (fun i => i = bi ∨ i = bb ∨ i = b) w3 w4 := (dr.mono (fun _ _ h => h.elim)).trans (F4.out.mono (fun _ _ h => .inl h))
              have a5 : Fr (fun i => i = bi ∨ i = bb ∨ i = b) w4 w6 := ((Fr.refl (fun i => i = bi ∨ i = bb ∨ i = b) w4).drew).trans (F6.out.mono (fun _ _ h => .inr (.inl h)))
              exact (a3.trans a4).trans a5
            have XN : XI w6 bi bb (updQ q' x b) (addD Dk id [x]) (addT Tk g [x]) := XK.out.more h1 h2 HNX.out HBB.out FZ ⟨_, MI4.out.fr F6.out X8.out.nb⟩ ⟨_, M6.out⟩ (MS4.out.fr F6.out N8.out.2.2.2.2.2.2.2)
            have FN : Fr (XS bi bb q D) w1 w6 := by
              refine FK.out.then FZ (fun i hi c => ?_)
              rcases c with c | c | c
              · exact .inl c
              · exact .inr (.inl c)
              · rcases HBB.out with ⟨e1, e2⟩ | ⟨_, e2⟩
                · rcases GR.out x e1 with ⟨g1, g2⟩ | g2
                  · exact .inr (.inr ⟨x, g1, by rw [c, e2, g2]⟩)
                  · omega
                · have := FK.out.size; omega
            have GN : ∀ y, fq (addD Dk id [x]) y ≠ 0 → (fq D y ≠ 0 ∧ updQ q' x b y = q y) ∨ w1.heap.size ≤ updQ q' x b y := by
              intro y hy
              by_cases c : y = x
              · subst c
                simp only [updQ, if_true]
                rcases HBB.out with ⟨e1, e2⟩ | ⟨_, e2⟩
                · rcases GR.out y e1 with ⟨g1, g2⟩ | g2
                  · exact .inl ⟨g1, by rw [e2, g2]⟩
                  · exact .inr (by omega)
                · exact .inr (by have := FK.out.size; omega)
              · rw [fq_other Dk (addD Dk id [x]) y (fun i => by simp [addD, c])] at hy
                simp only [updQ, c, if_false]
                exact GR.out y hy
            have HFN := hid FN
            have HGN := hid GN
            have HXN := hid XN
            clear FN GN XN FZ
            go_region
            all_goals go_wp2_with fail
            all_goals exact ⟨⟨k + 1, updQ q' x b, by go_num, by omega, by rw [HE.out.1, HE.out.2]; exact HXN.out, HFN.out, by rw [HE.out.1]; exact HGN.out⟩, by simp [intOf]; omega⟩
      · have hlk : ∀ W, MapF sk W bi (im q' Dk) ni → (Instr.lookup 77 (.map (some bi)) (.string x) false).run Tryz.prog W = .ok (.agg #[.map (some (q' x)), .int .i64 (fq Dk x : Int)]) W := fun W hm => by
          have := hm.lookup kStr uInv (zPost W) x false
          have e : im q' Dk x = some (.agg #[.map (some (q' x)), .int .i64 (fq Dk x : Int)]) := by unfold im; rw [if_neg hf0]
          rw [e] at this
          exact this
        have fz := (Fr.refl (fun _ => False) wr).alloc (.cells #[.map none, .int .i64 0] 117)
        have l1 := hlk wr MI.out
        have l2 := hlk wr.drew (MI.out.fr ((Fr.refl (fun _ => False) wr).drew) (fun h => h))
        have l3 := hlk (wr.alloc (.cells #[.map none, .int .i64 0] 117)) (MI.out.fr fz (fun h => h))
        have l4 := hlk (wr.alloc (.cells #[.map none, .int .i64 0] 117)).drew (MI.out.fr fz.drew (fun h => h))
        clear hlk fz
        go_upto_region 5 with fail
        go_cut [6] (fun p wx => ∃ pP, p = .pointer (some ⟨pP, 0, none⟩) ∧ pP = wr.heap.size ∧ At wx pP 0 (.map (some (q' x))) ∧ At wx pP 1 (.int .i64 (fq Dk x : Int)) ∧ Fr (fun _ => False) wr wx)
        case first =>
          go_region
          all_goals go_wp2_with fail
          all_goals go_meet
          all_goals exact ⟨_, rfl, rfl, (At.new wr _ _ rfl).drew, (At.new wr _ _ rfl).drew, ((Fr.refl _ _).alloc _).drew⟩
        case rest =>
          obtain ⟨pP, rfl, hpP, b0, b1, fb⟩ := hcut
          have heq0 : ∀ W, (binOp BinOp.eql 85 (.map none) (.map none)).run Tryz.prog W = .ok (.bool true) W := fun W => by kernel_rfl
          have heq1 : ∀ b W, (binOp BinOp.eql 85 (.map (some b)) (.map none)).run Tryz.prog W = .ok (.bool false) W := fun b W => by kernel_rfl
          have B0 := hid b0
          have B1 := hid b1
          have FB := hid fb
          have HPP : Hid (pP = wr.heap.size) := hpP
          clear b0 b1 fb hpP l1 l2 l3 l4 c1 cw
          have y0 := B0.out.c
          go_upto_region 8 with fail
          obtain ⟨b, hb⟩ : ∃ b, b = q' x := ⟨_, rfl⟩
          rw [← hb] at B0 y0
          have C0 := B0
          have C1 := B1
          have FW := FB
          have MS : Hid (MapF ik wc b (sm (Dk x)) (fq Dk x)) := by rw [hb]; exact (XK.out.set x hf0).fr FB.out (fun h => h)
          have HBB : Hid ((fq Dk x ≠ 0 ∧ b = q' x) ∨ (fq Dk x = 0 ∧ wr.heap.size ≤ b)) := .inl ⟨hf0, hb⟩
          have hbp : b ≠ pP := MS.out.ne_at B0.out
          clear y0 B0 B1 FB hb hf0
          obtain ⟨w8, hw8⟩ : ∃ w8, w8 = wc := ⟨_, rfl⟩
          rw [← hw8] at C0 C1 FW MS ⊢
          clear hw8
          have X8 := hid (XK.out.fr FW.out (fun _ _ h => h))
          have D8 := hid (fun q v hv => ((PD1.out q v hv).fr FK.out ND.out).fr FW.out (fun h => h))
          have W8 := hid (CW.out.fr FW.out (fun h => h))
          have XA := hid (((X1.out.fr F1.out (fun h => h)).fr FK.out NX.out).fr FW.out (fun h => h))
          have XB := hid (((X2.out.fr F1.out (fun h => h)).fr FK.out NX.out).fr FW.out (fun h => h))
          have N8 : Hid (pP ≠ pd ∧ pP ≠ gv ∧ pP ≠ bX ∧ b ≠ pd ∧ b ≠ gv ∧ b ≠ bX ∧ b ≠ bi ∧ b ≠ bb) := by
            have := HPP.out
            refine ⟨by omega, by omega, by omega, MS.out.ne_at (D8.out 0 _ rfl), MS.out.ne_at W8.out, MS.out.ne_at XA.out, ?_, ?_⟩
            · rcases HBB.out with ⟨e1, e2⟩ | ⟨_, e2⟩
              · rw [e2]; exact (XK.out.ni x e1).1
              · have := XK.out.lt bi (.inl rfl); omega
            · rcases HBB.out with ⟨e1, e2⟩ | ⟨_, e2⟩
              · rw [e2]; exact (XK.out.ni x e1).2
              · have := XK.out.lt bb (.inr (.inl rfl)); omega
          have y0 := C0.out.c
          have i0 := (D8.out 0 _ rfl).c
          go_upto_region 9 with (first
            | (at_mapUpdate; refine wp_upd rfl rfl kInt uSet MS.out rfl (k := id) rfl (u := .bool true) rfl ?_; intro w2 hm2 hf2 hs2)
            | go_in)
          have hno : (sm (Dk x) id).isSome = false := by unfold sm; rw [HNX.out]; rfl
          rw [sm_add, hno] at hm2
          simp only [Bool.false_eq_true, if_false] at hm2
          have MS2 := hid hm2
          have F2 := hid hf2
          have Z2 := hid hs2
          clear hm2 hf2 hs2 hno y0 i0
          have E1 := hid (C1.out.fr F2.out hbp.symm)
          have E0 := hid (C0.out.fr F2.out hbp.symm)
          have y1 := E1.out.c
          have z1 := E1.out.f
          have hfq : (fq Dk x : Int) ≤ 9 := by have := fq_le Dk x; omega
          have hfq0 : (0 : Int) ≤ (fq Dk x : Int) := by omega
          go_upto_region 10 with fail
          have FS3 : Hid (Fr (fun i => i = pP) w2 (w2.setCell ⟨pP, 1, none⟩ (.int .i64 ((fq Dk x : Int) + 1)))) := (Fr.refl (fun i => i = pP) w2).setCell (p := ⟨pP, 1, none⟩) (fun _ => rfl) _
          have G0 := hid (E0.out.other (b' := pP) (o' := 1) (by omega) (.int .i64 ((fq Dk x : Int) + 1)))
          have G1 := hid (E1.out.same (.int .i64 ((fq Dk x : Int) + 1)))
          clear y1 z1 E0 E1
          generalize w2.setCell ⟨pP, 1, none⟩ (.int .i64 ((fq Dk x : Int) + 1)) = w3 at *
          have F3 : Hid (Fr (fun i => i = b ∨ i = pP) w8 w3) := (F2.out.mono (fun i _ h => Or.inl h)).trans (FS3.out.mono (fun i _ h => Or.inr h))
          have nn : ∀ i, i ≠ b → i ≠ pP → ¬ (i = b ∨ i = pP) := fun i h1 h2 => fun c => c.elim h1 h2
          have XA3 := hid (XA.out.fr F3.out (nn _ N8.out.2.2.2.2.2.1.symm N8.out.2.2.1.symm))
          have XB3 := hid (XB.out.fr F3.out (nn _ N8.out.2.2.2.2.2.1.symm N8.out.2.2.1.symm))
          have W3 := hid (W8.out.fr F3.out (nn _ N8.out.2.2.2.2.1.symm N8.out.2.1.symm))
          have D3 := hid (fun q v hv => (D8.out q v hv).fr F3.out (nn _ N8.out.2.2.2.1.symm N8.out.1.symm))
          have hbip : bi ≠ pP ∧ bb ≠ pP := by have := XK.out.lt bi (.inl rfl); have := XK.out.lt bb (.inr (.inl rfl)); have := HPP.out; omega
          obtain ⟨n3, MI3⟩ := X8.out.inv
          obtain ⟨m3, MT3⟩ := X8.out.tal
          have MI3 := (MI3.fr F3.out (nn _ N8.out.2.2.2.2.2.2.1.symm hbip.1)).fr ((Fr.refl (fun _ => False) w3).drew) (fun h => h)
          have MT3 := hid ((MT3.fr F3.out (nn _ N8.out.2.2.2.2.2.2.2.symm hbip.2)).fr ((Fr.refl (fun _ => False) w3).drew) (fun h => h))
          have MS3 := hid ((MS2.out.fr FS3.out hbp).fr ((Fr.refl (fun _ => False) w3).drew) (fun h => h))
          obtain ⟨w4, hrun4, m4, f4, s4⟩ := MI3.update kStr uInv x (.agg #[.map (some b), .int .i64 ((fq Dk x : Int) + 1)])
          rw [im_add h1 h2 HNX.out] at m4
          have M4 := hid m4
          have F4 := hid f4
          have S4 := hid s4
          clear m4 f4 s4 MI3 nn
          have hrun4' : (Instr.mapUpdate 77 (.map (some bi)) (.string x) (.agg #[.map (some b), .int .i64 ((fq Dk x : Int) + 1)])).run Tryz.prog w3.drew = .ok () w4 := hrun4
          clear hrun4
          have y0 := G0.out.c
          have y1 := G1.out.c
          have c1 := XA3.out.c
          have cw := W3.out.c
          go_cut [] (fun wx => wx = w4)
          case first =>
            go_region
            all_goals go_wp2_with fail
            all_goals go_meet
            all_goals rfl
          case rest =>
            obtain rfl := hcut.symm
            clear hcut hrun4' y0 y1 c1 cw
            have nbi : ∀ i, i ≠ bi → ¬ (fun j => j = bi) i := fun i h => h
            have dr := (Fr.refl (fun _ => False) w3).drew
            have hXb : bX ≠ bi := fun e => by obtain ⟨n, m⟩ := X8.out.inv; exact (m.ne_at XA.out) e.symm
            have hgb' : gv ≠ bi := fun e => by obtain ⟨n, m⟩ := X8.out.inv; exact (m.ne_at W8.out) e.symm
            have hpb : pd ≠ bi := fun e => by obtain ⟨n, m⟩ := X8.out.inv; exact (m.ne_at (D8.out 0 _ rfl)) e.symm
            have XB4 := hid ((XB3.out.fr dr (fun h => h)).fr F4.out hXb)
            have W4 := hid ((W3.out.fr dr (fun h => h)).fr F4.out hgb')
            have D4 := hid (fun q v hv => ((D3.out q v hv).fr dr (fun h => h)).fr F4.out hpb)
            have MT4 := (MT3.out.fr F4.out X8.out.nb.symm).fr ((Fr.refl (fun _ => False) w4).drew) (fun h => h)
            have MS4 := hid ((MS3.out.fr F4.out N8.out.2.2.2.2.2.2.1).fr ((Fr.refl (fun _ => False) w4).drew) (fun h => h))
            have MI4 := hid (M4.out.fr ((Fr.refl (fun _ => False) w4).drew) (fun h => h))
            have hlk5 := MT4.lookup kKey uBy (zInt w4.drew) (g, x) false
            rw [cmK_get] at hlk5
            have hlk5' : (Instr.lookup 78 (.map (some bb)) (.agg #[.int .i64 g, .string x]) false).run Tryz.prog w4.drew = .ok (.int .i64 (Tk (g, x) : Int)) w4.drew := hlk5
            obtain ⟨st, w5, he5, hm5, hf5, hs5, hst5⟩ := MT4.entry kKey uBy (zInt w4.drew) (g, x)
            have hlk7 := hm5.lookup kKey uBy (zInt w5) (g, x) false
            have e7 : (updF (cmK Tk) (g, x) (some ((cmK Tk (g, x)).getD (.int .i64 0))) (g, x)).getD (.int .i64 0) = .int .i64 (Tk (g, x) : Int) := by rw [← cmK_get]; simp [updF]
            have hlk7' : (Instr.lookup 78 (.map (some bb)) (.agg #[.int .i64 g, .string x]) false).run Tryz.prog w5 = .ok (.int .i64 (Tk (g, x) : Int)) w5 := by rw [← e7]; exact hlk7
            have nbb : bX ≠ bb ∧ gv ≠ bb ∧ pd ≠ bb := by
              obtain ⟨n, m⟩ := X8.out.tal
              exact ⟨(m.ne_at XA.out).symm, (m.ne_at W8.out).symm, (m.ne_at (D8.out 0 _ rfl)).symm⟩
            have f45 : Fr (fun i => i = bb) w4 w5 := ((Fr.refl (fun i => i = bb) w4).drew).trans hf5
            have g2 := (XB4.out.fr f45 nbb.1).c
            have g3 := ((D4.out 1 _ rfl).fr f45 nbb.2.2).c
            have gw := (W4.out.fr f45 nbb.2.1).c
            clear hlk7 e7 hm5 hf5 hs5 f45
            rw [cmK_get] at he5
            have he5' : (Instr.mapEntry 78 (.map (some bb)) (.agg #[.int .i64 g, .string x])).run Tryz.prog w4.drew = .ok (.tuple #[.int .i64 (Tk (g, x) : Int), .int .i64 st]) w5 := he5
            obtain ⟨w6, hr6, m6, f6, s6⟩ := hst5 (.int .i64 ((Tk (g, x) : Int) + 1))
            rw [cmK_add] at m6
            have M6 := hid m6
            have F6 := hid f6
            clear hlk5 he5 hst5 m6 f6 s6 MT4
            have hTb : (Tk (g, x) : Int) ≤ 1001 := by have := HTB.out; omega
            have hTb0 : (0 : Int) ≤ (Tk (g, x) : Int) := by omega
            have c2 := XB4.out.c
            have cw := W4.out.c
            have c3 := (D4.out 1 _ rfl).c
            go_upto_region 11 with fail
            have FZ : Fr (fun i => i = bi ∨ i = bb ∨ i = b) wr w6 := by
              have a1 : Fr (fun i => i = bi ∨ i = bb ∨ i = b) wr w8 := FW.out.mono (fun _ _ h => h.elim)
              have a2 : Fr (fun i => i = bi ∨ i = bb ∨ i = b) w8 w2 := F2.out.mono (fun _ _ h => .inr (.inr h))
              have a3 := (a1.trans a2).then FS3.out (fun i hi e => by have e' : i = pP := e; have := HPP.out; omega)
              have a4 : Fr (fun i => i = bi ∨ i = bb ∨ i = b) w3 w4 := (dr.mono (fun _ _ h => h.elim)).trans (F4.out.mono (fun _ _ h => .inl h))
              have a5 : Fr (fun i => i = bi ∨ i = bb ∨ i = b) w4 w6 := ((Fr.refl (fun i => i = bi ∨ i = bb ∨ i = b) w4).drew).trans (F6.out.mono (fun _ _ h => .inr (.inl h)))
              exact (a3.trans a4).trans a5
            have XN : XI w6 bi bb (updQ q' x b) (addD Dk id [x]) (addT Tk g [x]) := XK.out.more h1 h2 HNX.out HBB.out FZ ⟨_, MI4.out.fr F6.out X8.out.nb⟩ ⟨_, M6.out⟩ (MS4.out.fr F6.out N8.out.2.2.2.2.2.2.2)
            have FN : Fr (XS bi bb q D) w1 w6 := by
              refine FK.out.then FZ (fun i hi c => ?_)
              rcases c with c | c | c
              · exact .inl c
              · exact .inr (.inl c)
              · rcases HBB.out with ⟨e1, e2⟩ | ⟨_, e2⟩
                · rcases GR.out x e1 with ⟨g1, g2⟩ | g2
                  · exact .inr (.inr ⟨x, g1, by rw [c, e2, g2]⟩)
                  · omega
                · have := FK.out.size; omega
            have GN : ∀ y, fq (addD Dk id [x]) y ≠ 0 → (fq D y ≠ 0 ∧ updQ q' x b y = q y) ∨ w1.heap.size ≤ updQ q' x b y := by
              intro y hy
              by_cases c : y = x
              · subst c
                simp only [updQ, if_true]
                rcases HBB.out with ⟨e1, e2⟩ | ⟨_, e2⟩
                · rcases GR.out y e1 with ⟨g1, g2⟩ | g2
                  · exact .inl ⟨g1, by rw [e2, g2]⟩
                  · exact .inr (by omega)
                · exact .inr (by have := FK.out.size; omega)
              · rw [fq_other Dk (addD Dk id [x]) y (fun i => by simp [addD, c])] at hy
                simp only [updQ, c, if_false]
                exact GR.out y hy
            have HFN := hid FN
            have HGN := hid GN
            have HXN := hid XN
            clear FN GN XN FZ
            go_region
            all_goals go_wp2_with fail
            all_goals exact ⟨⟨k + 1, updQ q' x b, by go_num, by omega, by rw [HE.out.1, HE.out.2]; exact HXN.out, HFN.out, by rw [HE.out.1]; exact HGN.out⟩, by simp [intOf]; omega⟩
    · have hgeI : ¬ (k : Int) < (l.length : Int) := by omega
      have hlb : (l.length : Int) ≤ 2000 := by omega
      have HE : Hid (l.take k = l) := List.take_of_length_le (by omega)
      rw [HE.out] at XK GR
      go_wp2_with fail
      go_end0
      rw [← HLS.out]
      refine ⟨rfl, ⟨q', XK.out, fun y hy => ?_⟩, (F1.out.mono (fun _ _ h => h.elim)).trans FK.out⟩
      rcases GR.out y hy with c | c
      · exact .inl c
      · exact .inr (by have := F1.out.size; have := HPD.out; omega)

end Go.Proofs.Qxb6500450aGreat
