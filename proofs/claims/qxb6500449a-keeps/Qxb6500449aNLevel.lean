/- Level: the index against the store, of one word. -/
import Derived.Test.Qxb6500449aNSmall
namespace Go.Proofs.Qxb6500449a
open Go Go.RowKit
set_option maxRecDepth 100000
set_option maxHeartbeats 1600000
set_option linter.unusedSimpArgs false
set_option linter.unusedVariables false
variable {bS : Nat}

/-- Of the documents l: those of group g that hold x. -/
def tkL (f : DocF) (x : ByteArray) (g : Int) (l : List Int) : Nat := l.countP fun i => has f g i && hwD f x i
def tkT (f : DocF) (x : ByteArray) (l : List Int) : List Int := [(tkL f x 0 l : Int), (tkL f x 1 l : Int), (tkL f x 2 l : Int)]
theorem hwD_isSome {f : DocF} {x : ByteArray} {i : Int} (h : hwD f x i = true) : (f i).isSome = true := by
  obtain e | ⟨d, e⟩ := opt (f i)
  · rw [hwD_none e] at h; cases h
  · rw [e]; rfl
theorem tkL_ids (f : DocF) (x : ByteArray) (g : Int) : tkL f x g (ids f) = tlK f (g, x) := by
  unfold tkL tlK ids
  rw [List.countP_filter]
  refine List.countP_congr (fun i _ => ?_)
  simp only [Bool.and_eq_true]
  exact ⟨fun h => h.1, fun h => ⟨h, hwD_isSome h.2⟩⟩
theorem docs_ids (f : DocF) {x : ByteArray} (hx : x.size ≤ 12) : (ids f).filter (hwD f x) = docsOf f x := by
  unfold docsOf ids
  rw [if_neg (by omega), List.filter_filter]
  refine List.filter_congr (fun i _ => ?_)
  by_cases h : hwD f x i = true
  · simp [h, hwD_isSome h]
  · simp at h; simp [h]
theorem tlK_out {f : DocF} (hok : OkF f) {g : Int} (h : g < 0 ∨ 2 < g) (x : ByteArray) : tlK f (g, x) = 0 := by
  unfold tlK
  rw [List.countP_eq_zero]
  intro i _
  obtain e | ⟨d, e⟩ := opt (f i)
  · simp [has, e]
  · have := hok.rng _ _ e
    simp [has, e]
    omega
theorem tkL_snoc (f : DocF) (x : ByteArray) (g : Int) (l : List Int) (i : Int) : tkL f x g (l ++ [i]) = tkL f x g l + if (has f g i && hwD f x i) = true then 1 else 0 := by
  unfold tkL
  rw [List.countP_append, List.countP_singleton]
theorem tkT_out {f : DocF} {x : ByteArray} {i : Int} (h : hwD f x i = false) (l : List Int) : tkT f x (l ++ [i]) = tkT f x l := by
  unfold tkT
  simp [tkL_snoc, h]
theorem tkT_in {f : DocF} {x : ByteArray} {i : Int} (h : hwD f x i = true) {g : Nat} {t : ByteArray} (hs : f i = some ((g : Int), t)) (hg : g < 3) (l : List Int) : tkT f x (l ++ [i]) = (tkT f x l).set g ((tkT f x l).getD g 0 + 1) := by
  unfold tkT
  have : g = 0 ∨ g = 1 ∨ g = 2 := by omega
  rcases this with rfl | rfl | rfl <;> simp [tkL_snoc, h, has, hs]
theorem tkT_le (f : DocF) (x : ByteArray) (l : List Int) (hl : l.length ≤ 9) (g : Nat) : 0 ≤ (tkT f x l).getD g 0 ∧ (tkT f x l).getD g 0 ≤ 9 := by
  have h (g : Int) : tkL f x g l ≤ 9 := Nat.le_trans List.countP_le_length hl
  have h0 := h 0
  have h1 := h 1
  have h2 := h 2
  unfold tkT
  match g with
  | 0 => simp; omega
  | 1 => simp; omega
  | 2 => simp; omega
  | g + 3 => simp
theorem ids_got {f : DocF} (hok : OkF f) {i : Int} (hi : i ∈ ids f) : ∃ (g : Nat) (t : ByteArray), g < 3 ∧ t.size ≤ 12 ∧ getP f i = ⟨i, (g : Int), t, 0⟩ ∧ f i = some ((g : Int), t) ∧ I64 i := by
  have h1 := (ids_mem hok i).1 hi
  obtain e | ⟨d, e⟩ := opt (f i)
  · rw [e] at h1; cases h1
  · obtain ⟨a, b, g1, g2, t1⟩ := hok.rng _ _ e
    obtain ⟨g, hg⟩ : ∃ g : Nat, d.1 = (g : Int) := ⟨d.1.toNat, by omega⟩
    have hgb : goodB i = true := good_iff.2 ⟨a, b⟩
    refine ⟨g, d.2, by omega, t1, ?_, ?_, by unfold I64; omega⟩
    · simp [getP, hgb, e, hg]
    · rw [e, ← hg]
theorem OwnI.tk3 (w : World) (f : DocF) (x : ByteArray) : OwnI (w.alloc (.cells #[.int .i64 0, .int .i64 0, .int .i64 0] 3)) w.heap.size (.slice (some ⟨w.heap.size, 0, none⟩) 3 3) (tkT f x []) :=
  World.ownsRow_lit w _ 3 (Nat.le_refl _) (by unfold maxLen; omega) rfl
theorem takeI_succ (l : List Int) (k : Nat) (h : k < l.length) : l.take (k + 1) = l.take k ++ [l.getD k 0] := by
  rw [List.take_succ_eq_append_getElem h]
  simp [List.getD, h]

theorem level_any {w : World} {F : Nat → Prop} {bX : Nat} {f : DocF} {r : Int → Nat} (h : XR bS w F bX f r) (x : ByteArray) (hx : x.size ≤ 12) (far : Int) :
    Calls Try.prog 48 #[bwV bS, .pointer (some ⟨bX, 0, none⟩), .string x, .int .i64 far] w fun e w' => e = .returned (.bool true) ∧ Fr (fun _ => False) w w' := by
  have HX := hid h.bound
  have HOK := hid h.ok
  have HSX := hid hx
  have m3 := mk3
  have FA := hid ((Fr.refl (fun _ => False) w).alloc (.cells #[.pointer (some ⟨bS, 0, none⟩)] 27))
  have AB : Hid (At (w.alloc (.cells #[.pointer (some ⟨bS, 0, none⟩)] 27)) w.heap.size 0 (.pointer (some ⟨bS, 0, none⟩))) := At.new w _ _ rfl
  have HZ0 : Hid ((w.alloc (.cells #[.pointer (some ⟨bS, 0, none⟩)] 27)).heap.size = w.heap.size + 1) := by simp [Hid]
  clear h hx
  unfold bwV
  go_enter Try.func48, Try.ntmps48
  have cb0 := (AB.out.fr ((Fr.refl (fun _ => False) _).alloc (.cells #[.int .i64 0, .int .i64 0, .int .i64 0] 3)) (fun h => h)).c
  go_wp2_with fail
  clear cb0
  generalize w.alloc (.cells #[.pointer (some ⟨bS, 0, none⟩)] 27) = w0 at *
  have O3 := hid (OwnI.tk3 w0 f x)
  have FB := hid (FA.out.alloc (.cells #[.int .i64 0, .int .i64 0, .int .i64 0] 3))
  have AB1 := hid (AB.out.fr ((Fr.refl (fun _ => False) _).alloc (.cells #[.int .i64 0, .int .i64 0, .int .i64 0] 3)) (fun h => h))
  have HZ1 : Hid ((w0.alloc (.cells #[.int .i64 0, .int .i64 0, .int .i64 0] 3)).heap.size = w0.heap.size + 1) := by simp [Hid]
  have hsr := HX.out.sr.frw FB.out (fun _ _ h => h)
  refine (listed_any hsr).mono ?_
  rintro e w1 ⟨v1, rfl, o1, n1, f1⟩
  have F1 := hid (FB.out.trans f1)
  have OI1 := hid o1
  have O31 := hid (O3.out.fr f1 (fun _ _ h => h))
  have AB2 := hid (AB1.out.fr f1 (fun h => h))
  have HZ2 := hid (Nat.le_trans (Nat.le_of_eq HZ1.out.symm) f1.size)
  have OID := hid (o1.mono (Nat.le_of_eq HZ1.out.symm))
  clear hsr o1 f1 n1 FA AB FB AB1 O3
  obtain ⟨pb, hpb⟩ : ∃ pb, pb = w.heap.size := ⟨_, rfl⟩
  rw [← hpb] at AB2 HZ0 ⊢
  have HPB := hid hpb
  clear hpb
  rw [HZ0.out] at HZ2 O31 OID
  obtain ⟨g3, hg3⟩ : ∃ g3, g3 = pb + 1 := ⟨_, rfl⟩
  rw [← hg3] at HZ2 O31 OID ⊢
  clear HZ0
  have HZ0 := hid hg3
  clear hg3
  obtain ⟨l, hl⟩ : ∃ l, l = ids f := ⟨_, rfl⟩
  rw [← hl] at OID OI1
  have HL := hid hl
  have hl9 : l.length ≤ 9 := by rw [hl, ids_len]; have := HOK.out.few; omega
  have hl9I : (l.length : Int) ≤ 9 := by omega
  clear hl OI1
  obtain ⟨ia, ic, hiv⟩ : ∃ a c, v1 = .slice a l.length c := by
    rcases OID.out.empty with ⟨e1, e2⟩ | ⟨g, cap, e1, _⟩
    · exact ⟨none, 0, by rw [e1, e2]; rfl⟩
    · exact ⟨_, cap, e1⟩
  subst hiv
  obtain ⟨N, hN⟩ : ∃ N, N = w1.heap.size := ⟨_, rfl⟩
  rw [← hN] at HZ2
  have HN := hid hN
  clear hN HZ1
  go_wp2_with fail
  go_loopw [9, 12] (fun v a wr => ∃ k : Nat, k ≤ l.length ∧ a = .int .i64 k ∧ OwnI wr N v ((l.take k).filter (hwD f x)) ∧ OwnI wr g3 (.slice (some ⟨g3, 0, none⟩) 3 3) (tkT f x (l.take k)) ∧ Fr (fun i => i = g3) w1 wr) (fun _ a _ => l.length - (intOf a).toNat)
  case atStart => exact ⟨0, by omega, rfl, OwnI.nil _ _, O31.out, Fr.refl _ _⟩
  case round =>
    clear O31
    obtain ⟨k, hk, rfl, ow, oin, fr⟩ := hrel
    have FR := hid fr
    have OW := hid ow
    have ON := hid oin
    have FW : Hid (Fr (fun _ => False) w wr) := F1.out.then fr (fun i hi e => by have := HZ0.out; have := HPB.out; omega)
    have hk0 : (0 : Int) ≤ (k : Int) := by omega
    have HWX := hid (HX.out.frw FW.out (fun _ _ h => h))
    have HSZ := hid fr.size
    generalize u9 = vw at *
    clear ow oin
    by_cases hlt : k < l.length
    · have hltI : (k : Int) < (l.length : Int) := by omega
      rcases OID.out.empty with ⟨_, hn⟩ | ⟨gi, ci, hv, hgb, hgl⟩
      · rw [hn] at hlt; simp at hlt
      cases hv
      have CI := hid ((OID.out.cell rfl hlt).fr fr (fun e => by have e' : gi = g3 := e; omega))
      have HNG : Hid (gi ≠ g3) := by have := hgb; unfold Hid; omega
      have ABR := hid (AB2.out.fr fr (fun e => by have e' : pb = g3 := e; have := HZ0.out; omega))
      have hmem : l.getD k 0 ∈ ids f := by rw [← HL.out]; simp [List.getD, hlt]
      obtain ⟨g, t, hg, ht, hgp, hs, hi64⟩ := ids_got HOK.out hmem
      have HTK := hid (takeI_succ l k hlt)
      have HHW : Hid (hwD f x (l.getD k 0) = decide (x ∈ runs t)) := hwD_some hs x
      have HHS := hid hs
      have HGP := hid hgp
      clear hmem hs hgp fr
      generalize l.getD k 0 = id at *
      have HT : Hid (∀ W, Fr (fun _ => False) wr W → Calls Try.prog 64 #[.agg #[.pointer (some ⟨bS, 0, none⟩)], .int .i64 id] W fun e w' => e = .returned (.string t) ∧ Fr (fun _ => False) W w') := by
        intro W hW
        have := textof_any (HWX.out.sr.frw hW (fun _ _ h => h)) id
        rw [HGP.out] at this
        exact this
      have cb := ABR.out.c
      have ci' := CI.out.c
      go_upto_region 7 with fail
      go_cut [13] (fun p wx => p = .string t ∧ Fr (fun _ => False) wr wx)
      case first =>
        go_region_with (go_at_call 64; refine (HT.out _ (Fr.refl _ _).drew).mono ?_; rintro e x7 ⟨rfl, g7⟩; have G7 : Hid (Fr (fun _ => False) wr x7) := (Fr.refl (fun _ => False) wr).drew.trans g7; clear g7)
        all_goals go_wp2_with fail
        all_goals go_meet
        all_goals exact ⟨rfl, G7.out⟩
      case rest =>
        obtain ⟨rfl, fd⟩ := hcut
        have HXC := hid (HWX.out.frw fd (fun _ _ h => h))
        have OWC := hid (OW.out.fr fd (fun _ _ h => h))
        have ONC := hid (ON.out.fr fd (fun _ _ h => h))
        have ABC := hid (ABR.out.fr fd (fun h => h))
        have CIC := hid (CI.out.fr fd (fun h => h))
        have FRC := hid (FR.out.trans (fd.mono (fun _ _ h => h.elim)))
        have HSC := hid (Nat.le_trans HSZ.out fd.size)
        have HSX1 : x.size ≤ 1000 := by have := HSX.out; omega
        have HT1 : t.size ≤ 1000 := by omega
        clear fd HT cb ci' HWX OW ON ABR CI FR FW HSZ
        go_wp2_with fail
        refine (lholds_any HT1 HSX1 wc).mono ?_
        rintro e w2 ⟨rfl, hw2⟩
        obtain rfl := hw2.symm
        clear HT1 HSX1
        by_cases hm : x ∈ runs t
        · have HM : Hid (hwD f x id = true) := by unfold Hid; rw [HHW.out]; simp [hm]
          rw [decide_eq_true hm]
          have HWN : Hid ((l.take (k + 1)).filter (hwD f x) = (l.take k).filter (hwD f x) ++ [id]) := by
            unfold Hid; rw [HTK.out, List.filter_append]; simp [HM.out]
          have HTN : Hid (tkT f x (l.take (k + 1)) = (tkT f x (l.take k)).set g ((tkT f x (l.take k)).getD g 0 + 1)) := by
            unfold Hid; rw [HTK.out]; exact tkT_in HM.out HHS.out hg _
          have hlw : ((l.take k).filter (hwD f x)).length ≤ 9 := Nat.le_trans (List.length_filter_le _ _) (by rw [List.length_take]; omega)
          have hgt := tkT_le f x (l.take k) (by rw [List.length_take]; omega) g
          obtain ⟨y, hy⟩ : ∃ y, y = (tkT f x (l.take k)).getD g 0 := ⟨_, rfl⟩
          rw [← hy] at HTN hgt
          have HY := hid hy
          have hy0 := hgt.1
          have hy9 := hgt.2
          have HLT3 : Hid ((tkT f x (l.take k)).length = 3) := rfl
          clear hy hgt hm HHW HM
          have hg0 : (0 : Int) ≤ (g : Int) := by omega
          have hg1 : (g : Int) < 3 := by omega
          have hg2 : (g : Int) ≤ 2 := by omega
          have ci' := CIC.out.c
          go_upto_region 10 with (first
            | (at_builtin; refine wp_appI rfl rfl (v := vw) rfl (OWC.out.fr ((Fr.refl (fun _ => False) _).alloc _) (fun _ _ h => h)) rfl (y := id) (At.new wc #[.int .i64 id] _ rfl).c (by omega) (by simp; have := HN.out; have := HSC.out; omega) ?_; intro gg cp w3 ow3 f3 hg3 hl3; go_frame)
            | go_in)
          have hfc : Fr (fun i => vw.ownBlock = some i) wc w3 := ((Fr.refl _ wc).alloc _).trans f3
          have hnv : Hid (∀ i, i < N → ¬ vw.ownBlock = some i) := fun i hi e => by have := (OWC.out.lt e).1; omega
          have HFN : Hid (∀ i, i < w.heap.size → i < N) := fun i hi => by have := HN.out; have := F1.out.size; omega
          have HXD := hid (HXC.out.frw hfc (fun i hi => hnv.out i (HFN.out i hi.2)))
          have OND := hid (ONC.out.fr hfc (fun q hq => hnv.out q (by simp [Value.ownBlock] at hq; have := HZ2.out; omega)))
          have ABD := hid (ABC.out.fr hfc (hnv.out _ (by have := HZ0.out; have := HZ2.out; omega)))
          have CID := hid (CIC.out.fr hfc (hnv.out _ (by have := HN.out; omega)))
          have FRD := hid (FRC.out.then hfc (fun i hi e => absurd e (hnv.out i (by have := HN.out; omega))))
          have HSD := hid (Nat.le_trans HSC.out hfc.size)
          rw [← HWN.out] at ow3
          have OWD := hid ow3
          clear ow3 hfc f3 HXC OWC ONC ABC CIC FRC HSC ci' hnv
          have HG : Hid (∀ W, Fr (fun _ => False) w3 W → Calls Try.prog 63 #[.agg #[.pointer (some ⟨bS, 0, none⟩)], .int .i64 id] W fun e w' => e = .returned (.int .i64 (g : Int)) ∧ Fr (fun _ => False) W w') := by
            intro W hW
            have := groupof_any (HXD.out.sr.frw hW (fun _ _ h => h)) id
            rw [HGP.out] at this
            exact this
          have cb := ABD.out.c
          have ci' := CID.out.c
          go_cut [14] (fun p wx => p = .int .i64 (g : Int) ∧ Fr (fun _ => False) w3 wx)
          case first =>
            go_region_with (go_at_call 63; refine (HG.out _ (Fr.refl _ _).drew).mono ?_; rintro e x7 ⟨rfl, g7⟩; have G7 : Hid (Fr (fun _ => False) w3 x7) := (Fr.refl (fun _ => False) w3).drew.trans g7; clear g7)
            all_goals go_wp2_with fail
            all_goals go_meet
            all_goals exact ⟨rfl, G7.out⟩
          case rest =>
            obtain ⟨rfl, fd⟩ := hcut
            have OWE := hid (OWD.out.fr fd (fun _ _ h => h))
            have ONE := hid (OND.out.fr fd (fun _ _ h => h))
            have FRE := hid (FRD.out.trans (fd.mono (fun _ _ h => h.elim)))
            have aa := ONE.out.cell rfl (j := g) (by rw [HLT3.out]; exact hg)
            rw [← HY.out] at aa
            have ca := aa.c
            have xa := aa.f
            clear fd HG cb ci' HXD OND ABD CID FRD aa OWD
            go_wp2_with fail
            have on4 := ONE.out.set rfl g (y + 1)
            rw [← HTN.out] at on4
            have f4 : Fr (fun i => i = g3) wc (wc.setCell ⟨g3, g, none⟩ (.int .i64 (y + 1))) := (Fr.refl (fun i => i = g3) wc).setCell (p := ⟨g3, g, none⟩) (fun _ => rfl) _
            have ow4 := OWE.out.fr f4 (fun q hq e => by have := (OWE.out.lt hq).1; have := HZ2.out; omega)
            exact ⟨⟨k + 1, by omega, by go_num, ow4, on4, FRE.out.trans f4⟩, by simp [intOf]; omega⟩
        · have HM : Hid (hwD f x id = false) := by unfold Hid; rw [HHW.out]; simp [hm]
          rw [decide_eq_false hm]
          have HWN : Hid ((l.take (k + 1)).filter (hwD f x) = (l.take k).filter (hwD f x)) := by
            unfold Hid; rw [HTK.out, List.filter_append]; simp [HM.out]
          have HTN : Hid (tkT f x (l.take (k + 1)) = tkT f x (l.take k)) := by
            unfold Hid; rw [HTK.out]; exact tkT_out HM.out _
          clear hm
          go_wp2_with fail
          exact ⟨⟨k + 1, by omega, by go_num, by rw [HWN.out]; exact OWC.out, by rw [HTN.out]; exact ONC.out, FRC.out⟩, by simp [intOf]; omega⟩
    · have hltI : ¬ (k : Int) < (l.length : Int) := by omega
      obtain rfl : k = l.length := by omega
      have ow' := OW.out
      have on' := ON.out
      rw [List.take_length] at ow' on'
      rw [HL.out, docs_ids f HSX.out] at ow'
      have HDL := hid (docsOf_i64 f x)
      have HDN := docsOf_le f x
      obtain ⟨a0, cap0, hvw, ia0⟩ := ow'.ints HDL.out
      subst hvw
      have IA0 := hid ia0
      have ONL := hid on'
      have HFQ := hid (docsOf_len f x)
      have hdl0 : (0 : Int) ≤ ((docsOf f x).length : Int) := by omega
      clear ow' on' ia0 OW ON fr hltI hlt
      go_wp2_with fail
      refine (idocs_any HWX.out x).mono ?_
      rintro e w2 ⟨v2, rfl, o2, _, f2⟩
      obtain ⟨a2, cap2, rfl, ia2⟩ := o2.ints HDL.out
      have IA2 := hid ia2
      have IA02 := hid (IA0.out.fr f2 (fun _ _ _ h => h))
      have ON2 := hid (ONL.out.fr f2 (fun _ _ h => h))
      have X2 := hid (HWX.out.frw f2 (fun _ _ h => h))
      have FW2 := hid (FW.out.trans f2)
      clear o2 f2 ia2 IA0 ONL HWX FW
      go_wp2_with fail
      refine (ints_any (l := docsOf f x) cap2 IA2.out (by omega)).mono ?_
      rintro e w3 ⟨rfl, f3⟩
      have IA03 := hid (IA02.out.fr f3 (fun _ _ _ h => h))
      have ON3 := hid (ON2.out.fr f3 (fun _ _ h => h))
      have X3 := hid (X2.out.frw f3 (fun _ _ h => h))
      have FW3 := hid (FW2.out.trans f3)
      clear f3 IA2 IA02 ON2 X2 FW2
      go_wp2_with fail
      refine (ints_any (l := docsOf f x) cap0 IA03.out (by omega)).mono ?_
      rintro e w4 ⟨rfl, f4⟩
      have ON4 := hid (ON3.out.fr f4 (fun _ _ h => h))
      have X4 := hid (X3.out.frw f4 (fun _ _ h => h))
      have FW4 := hid (FW3.out.trans f4)
      clear f4 IA03 ON3 X3 FW3
      generalize bs (ints (docsOf f x)) = sd at *
      obtain ⟨dn, hdn⟩ : ∃ dn, dn = (docsOf f x).length := ⟨_, rfl⟩
      rw [← hdn] at HFQ hdl0 ⊢
      clear hdn HDN
      go_wp2_with fail
      have HTA : Hid (∀ g : Int, (tal f g x : Int) = (tlK f (g, x) : Int)) := fun g => by unfold tal; rw [if_neg (by have := HSX.out; omega)]
      have TA := fun g : Int => itally_any X4.out g x
      simp only [HTA.out] at TA
      have HTL := hid TA
      clear TA
      have HFR := hid (ifreq_any X4.out x)
      rw [← HFQ.out] at HFR
      go_loop [17] (fun i => ∃ j : Nat, j ≤ 5 ∧ i = .int .i64 ((j : Int) - 1)) (fun i => 5 - (intOf i + 1).toNat)
      case atStart => exact ⟨0, by omega, rfl⟩
      case round =>
        obtain ⟨j, hj, rfl⟩ := hrel
        by_cases h0 : j = 0
        · subst h0
          have hc : Hid ((tlK f (-1, x) : Int) = 0) := by unfold Hid; rw [tlK_out HOK.out (by omega)]; rfl
          go_wp2_with (first
            | (go_at_call 40; refine (HTL.out (-1)).mono ?_; rintro e w8 ⟨rfl, hw8⟩; obtain rfl := hw8.symm; rw [hc.out])
            | fail)
          exact ⟨⟨1, by omega, rfl⟩, by simp [intOf]⟩
        · by_cases h3 : j ≤ 3
          · obtain ⟨m, rfl⟩ : ∃ m, j = m + 1 := ⟨j - 1, by omega⟩
            have ej : (((m + 1 : Nat) : Int) - 1) = (m : Int) := by omega
            rw [ej]
            have hm0 : (0 : Int) ≤ (m : Int) := by omega
            have hm2 : (m : Int) ≤ 2 := by omega
            have hm3 : (m : Int) ≤ 3 := by omega
            have hm4 : (m : Int) < 3 := by omega
            have cg := (ON4.out.cell rfl (j := m) (by simp [tkT]; omega)).c
            have hgm : (tkT f x l).getD m 0 = (tlK f ((m : Int), x) : Int) := by
              rw [HL.out]
              have : m = 0 ∨ m = 1 ∨ m = 2 := by omega
              rcases this with rfl | rfl | rfl <;> simp [tkT, tkL_ids]
            rw [hgm] at cg
            clear hgm ej h0 h3
            go_wp2_with (first
              | (go_at_call 40; refine (HTL.out (m : Int)).mono ?_; rintro e w8 ⟨rfl, hw8⟩; obtain rfl := hw8.symm)
              | fail)
            exact ⟨⟨m + 2, by omega, by go_num⟩, by simp [intOf]; omega⟩
          · by_cases h4 : j = 4
            · subst h4
              have hc : Hid ((tlK f (3, x) : Int) = 0) := by unfold Hid; rw [tlK_out HOK.out (by omega)]; rfl
              go_wp2_with (first
                | (go_at_call 40; refine (HTL.out 3).mono ?_; rintro e w8 ⟨rfl, hw8⟩; obtain rfl := hw8.symm; rw [hc.out])
                | fail)
              exact ⟨⟨5, by omega, rfl⟩, by simp [intOf]⟩
            · obtain rfl : j = 5 := by omega
              clear h0 h3 h4
              by_cases hf0 : far < 0
              · have hc : Hid ((tlK f (far, x) : Int) = 0) := by unfold Hid; rw [tlK_out HOK.out (by omega)]; rfl
                go_wp2_with (first
                  | (go_at_call 40; refine (HTL.out far).mono ?_; rintro e w8 ⟨rfl, hw8⟩; obtain rfl := hw8.symm; rw [hc.out])
                  | (go_at_call 14; refine HFR.out.mono ?_; rintro e w8 ⟨rfl, hw8⟩; obtain rfl := hw8.symm)
                  | fail)
                go_ret
                exact ⟨rfl, FW4.out⟩
              · by_cases hf2 : 2 < far
                · have hc : Hid ((tlK f (far, x) : Int) = 0) := by unfold Hid; rw [tlK_out HOK.out (by omega)]; rfl
                  go_wp2_with (first
                    | (go_at_call 40; refine (HTL.out far).mono ?_; rintro e w8 ⟨rfl, hw8⟩; obtain rfl := hw8.symm; rw [hc.out])
                    | (go_at_call 14; refine HFR.out.mono ?_; rintro e w8 ⟨rfl, hw8⟩; obtain rfl := hw8.symm)
                    | fail)
                  go_ret
                  exact ⟨rfl, FW4.out⟩
                · go_wp2_with (first
                    | (go_at_call 14; refine HFR.out.mono ?_; rintro e w8 ⟨rfl, hw8⟩; obtain rfl := hw8.symm)
                    | fail)
                  go_ret
                  exact ⟨rfl, FW4.out⟩

end Go.Proofs.Qxb6500449a
