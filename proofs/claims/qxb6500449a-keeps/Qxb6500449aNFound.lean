/- Found, Named. -/
import Derived.Test.Qxb6500449aNLevel
namespace Go.Proofs.Qxb6500449a
open Go Go.RowKit
set_option maxRecDepth 100000
set_option maxHeartbeats 1600000
set_option linter.unusedSimpArgs false
set_option linter.unusedVariables false
variable {bS : Nat}

theorem word_in {f : DocF} (ok : OkF f) {id : Int} {g : Int} {t : ByteArray} (h : f id = some (g, t)) {y : ByteArray} (hy : y ∈ runs t) : y ∈ wordsOf f := by
  rw [wordsOf_mem ok]
  have hw : hwD f y id = true := by rw [hwD_some h y]; simp [hy]
  have hs := hwD_sup ok y id hw
  unfold fq
  have : 0 < nine.countP (hwD f y) := List.countP_pos_iff.2 ⟨id, mem_nine hs.1 hs.2, hw⟩
  omega

theorem found_any {w : World} {F : Nat → Prop} {f : DocF} {r : Int → Nat} (h : SR w F bS f r) {base : Nat} {v : Value} (ho : OwnS w base v (wordsOf f)) :
    Calls Try.prog 50 #[bwV bS, v] w fun e w' => e = .returned (.bool true) ∧ Fr (fun _ => False) w w' := by
  have H := hid h
  have HOK := hid h.ok
  have HO := hid ho
  have HWL := hid (wordsOf_len h.ok)
  have FA := hid ((Fr.refl (fun _ => False) w).alloc (.cells #[.pointer (some ⟨bS, 0, none⟩)] 27))
  have AB : Hid (At (w.alloc (.cells #[.pointer (some ⟨bS, 0, none⟩)] 27)) w.heap.size 0 (.pointer (some ⟨bS, 0, none⟩))) := At.new w _ _ rfl
  clear h ho
  unfold bwV
  go_enter Try.func50, Try.ntmps50
  have cb0 := AB.out.c
  go_wp2_with fail
  clear cb0
  refine (listed_any (H.out.frw FA.out (fun _ _ h => h))).mono ?_
  rintro e w1 ⟨v1, rfl, o1, n1, f1⟩
  have F1 := hid (FA.out.trans f1)
  have OID := hid o1
  have AB1 := hid (AB.out.fr f1 (fun h => h))
  clear o1 f1 n1 FA AB
  obtain ⟨pb, hpb⟩ : ∃ pb, pb = w.heap.size := ⟨_, rfl⟩
  rw [← hpb] at AB1 ⊢
  clear hpb
  obtain ⟨l, hl⟩ : ∃ l, l = ids f := ⟨_, rfl⟩
  rw [← hl] at OID
  have HL := hid hl
  have hl9 : l.length ≤ 9 := by rw [hl, ids_len]; have := HOK.out.few; omega
  have hl9I : (l.length : Int) ≤ 9 := by omega
  clear hl
  obtain ⟨ia, ic, hiv⟩ : ∃ a c, v1 = .slice a l.length c := by
    rcases OID.out.empty with ⟨e1, e2⟩ | ⟨g, cap, e1, _⟩
    · exact ⟨none, 0, by rw [e1, e2]; rfl⟩
    · exact ⟨_, cap, e1⟩
  subst hiv
  go_wp2_with fail
  go_loopw [6] (fun a wr => ∃ k : Nat, k ≤ l.length ∧ a = .int .i64 k ∧ Fr (fun _ => False) w1 wr) (fun a _ => l.length - (intOf a).toNat)
  case atStart => exact ⟨0, by omega, rfl, Fr.refl _ _⟩
  case round =>
    obtain ⟨k, hk, rfl, fr⟩ := hrel
    have FR := hid fr
    have FW : Hid (Fr (fun _ => False) w wr) := F1.out.trans fr
    have hk0 : (0 : Int) ≤ (k : Int) := by omega
    have HWX := hid (H.out.frw FW.out (fun _ _ h => h))
    by_cases hlt : k < l.length
    · have hltI : (k : Int) < (l.length : Int) := by omega
      rcases OID.out.empty with ⟨_, hn⟩ | ⟨gi, ci, hv, hgb, hgl⟩
      · rw [hn] at hlt; simp at hlt
      cases hv
      have CI := hid ((OID.out.cell rfl hlt).fr fr (fun h => h))
      have ABR := hid (AB1.out.fr fr (fun h => h))
      have hmem : l.getD k 0 ∈ ids f := by rw [← HL.out]; simp [List.getD, hlt]
      obtain ⟨g, t, hg, ht, hgp, hs, hi64⟩ := ids_got HOK.out hmem
      have HRN : Hid (∀ y ∈ runs t, y ∈ wordsOf f) := fun y hy => word_in HOK.out hs hy
      have HGP := hid hgp
      clear hmem hs hgp fr
      generalize l.getD k 0 = id at *
      have HT : Hid (∀ W, Fr (fun _ => False) wr W → Calls Try.prog 64 #[.agg #[.pointer (some ⟨bS, 0, none⟩)], .int .i64 id] W fun e w' => e = .returned (.string t) ∧ Fr (fun _ => False) W w') := by
        intro W hW
        have := textof_any (HWX.out.frw hW (fun _ _ h => h)) id
        rw [HGP.out] at this
        exact this
      have cb := ABR.out.c
      have ci' := CI.out.c
      go_upto_region 5 with fail
      go_cut [7] (fun p wx => p = .string t ∧ Fr (fun _ => False) wr wx)
      case first =>
        go_region_with (go_at_call 64; refine (HT.out _ (Fr.refl _ _).drew).mono ?_; rintro e x7 ⟨rfl, g7⟩; have G7 : Hid (Fr (fun _ => False) wr x7) := (Fr.refl (fun _ => False) wr).drew.trans g7; clear g7)
        all_goals go_wp2_with fail
        all_goals go_meet
        all_goals exact ⟨rfl, G7.out⟩
      case rest =>
        obtain ⟨rfl, fd⟩ := hcut
        have FRC := hid (FR.out.trans fd)
        have HOC := hid ((HO.out.fr FW.out (fun _ _ h => h)).fr fd (fun _ _ h => h))
        clear fd HT cb ci' HWX ABR CI FR FW
        have ht1000 : t.size ≤ 1000 := by omega
        have htI : (t.size : Int) ≤ 12 := by omega
        go_wp2_with fail
        go_loop [8, 9] (fun a b => ∃ lo i : Nat, lo ≤ i ∧ i ≤ t.size + 1 ∧ a = .int .i64 lo ∧ b = .int .i64 i ∧ ∀ y ∈ rn t (t.size + 1 - i) lo i, y ∈ wordsOf f) (fun _ b => t.size + 1 - (intOf b).toNat)
        case atStart => exact ⟨0, 0, by omega, by omega, rfl, rfl, HRN.out⟩
        case round =>
          obtain ⟨lo, i, hli, his, rfl, rfl, hfo⟩ := hrel
          have HFO := hid hfo
          have hi0 : (0 : Int) ≤ (i : Int) := by omega
          have hlo0 : (0 : Int) ≤ (lo : Int) := by omega
          have hloi : (lo : Int) ≤ (i : Int) := by omega
          clear hfo
          by_cases hle : i ≤ t.size
          · have hleI : (i : Int) ≤ (t.size : Int) := by omega
            have hit : (i : Int) ≤ 1000 := by omega
            have e1 : t.size + 1 - i = (t.size - i) + 1 := by omega
            have e2 : t.size + 1 - (i + 1) = t.size - i := by omega
            rw [e1] at HFO
            by_cases hnb : nbk t i = true
            · have HN : Hid (∀ y ∈ rn t (t.size + 1 - (i + 1)) lo (i + 1), y ∈ wordsOf f) := by
                have := HFO.out
                unfold rn at this
                rw [if_pos hnb] at this
                rw [e2]
                exact this
              have hlt2 : i < t.size := by
                unfold nbk at hnb
                split at hnb
                · assumption
                · cases hnb
              have hlt2I : (i : Int) < (t.size : Int) := by omega
              have hb : ((t[i].toNat : Int) != 32) = true := by
                unfold nbk at hnb
                rw [dif_pos hlt2] at hnb
                simp at hnb ⊢
                omega
              clear hnb HFO e1 e2
              go_wp2_with fail
              exact ⟨⟨lo, i + 1, by omega, by omega, rfl, by go_num, HN.out⟩, by simp [intOf]; omega⟩
            · have HN : Hid (∀ y ∈ (if lo < i then [t.extract lo i] else []) ++ rn t (t.size + 1 - (i + 1)) (i + 1) (i + 1), y ∈ wordsOf f) := by
                have := HFO.out
                unfold rn at this
                rw [if_neg hnb] at this
                rw [e2]
                exact this
              have HN2 : Hid (∀ y ∈ rn t (t.size + 1 - (i + 1)) (i + 1) (i + 1), y ∈ wordsOf f) := fun y hy => HN.out y (List.mem_append_right _ hy)
              have hcase : (i < t.size ∧ ∃ h : i < t.size, t[i].toNat = 32) ∨ ¬ i < t.size := by
                by_cases h : i < t.size
                · left
                  refine ⟨h, h, ?_⟩
                  unfold nbk at hnb
                  rw [dif_pos h] at hnb
                  simpa using hnb
                · exact .inr h
              have hsl : ∀ W, (Instr.slice 9 (.string t) (some (.int .i64 (lo : Int))) (some (.int .i64 (i : Int))) none).run Try.prog W = .ok (.string (t.extract lo i)) W := fun W => by
                have := run_slice_string (P := Try.prog) W 9 t .i64 .i64 (lo : Int) (i : Int) (by kernel_rfl) hlo0 hloi hleI
                simpa using this
              have HPS : Hid ((t.extract lo i).size ≤ 1000) := by unfold Hid; rw [ByteArray.size_extract]; omega
              have HPM : Hid (lo < i → t.extract lo i ∈ wordsOf f) := fun h => HN.out _ (by rw [if_pos h]; simp)
              clear hnb HFO e1 e2 HN
              generalize t.extract lo i = pc at *
              have HLI := hid (listing_any HOC.out (by have := HWL.out; omega) pc HPS.out)
              rcases hcase with ⟨hlt2, _, hby⟩ | hlt2
              · have hlt2I : (i : Int) < (t.size : Int) := by omega
                have hb : ((t[i].toNat : Int) != 32) = false := by simp; omega
                clear hby
                by_cases hll2 : lo < i
                · have hll2I : (lo : Int) < (i : Int) := by omega
                  rw [decide_eq_true (HPM.out hll2)] at HLI
                  go_wp2_with fail
                  refine HLI.out.mono ?_
                  rintro e w2 ⟨rfl, hw2⟩
                  obtain rfl := hw2.symm
                  go_wp2_with fail
                  exact ⟨⟨i + 1, i + 1, by omega, by omega, by go_num, by go_num, HN2.out⟩, by simp [intOf]; omega⟩
                · have hll2I : ¬ (lo : Int) < (i : Int) := by omega
                  go_wp2_with fail
                  exact ⟨⟨i + 1, i + 1, by omega, by omega, by go_num, by go_num, HN2.out⟩, by simp [intOf]; omega⟩
              · have hlt2I : ¬ (i : Int) < (t.size : Int) := by omega
                by_cases hll2 : lo < i
                · have hll2I : (lo : Int) < (i : Int) := by omega
                  rw [decide_eq_true (HPM.out hll2)] at HLI
                  go_wp2_with fail
                  refine HLI.out.mono ?_
                  rintro e w2 ⟨rfl, hw2⟩
                  obtain rfl := hw2.symm
                  go_wp2_with fail
                  exact ⟨⟨i + 1, i + 1, by omega, by omega, by go_num, by go_num, HN2.out⟩, by simp [intOf]; omega⟩
                · have hll2I : ¬ (lo : Int) < (i : Int) := by omega
                  go_wp2_with fail
                  exact ⟨⟨i + 1, i + 1, by omega, by omega, by go_num, by go_num, HN2.out⟩, by simp [intOf]; omega⟩
          · have hleI : ¬ (i : Int) ≤ (t.size : Int) := by omega
            go_wp2_with fail
            exact ⟨⟨k + 1, by omega, by go_num, FRC.out⟩, by simp [intOf]; omega⟩
    · have hltI : ¬ (k : Int) < (l.length : Int) := by omega
      go_wp2_with fail
      go_ret
      exact ⟨rfl, FW.out⟩

theorem named_any {w : World} {F : Nat → Prop} {bX : Nat} {f : DocF} {r : Int → Nat} (h : XR bS w F bX f r) {base : Nat} {v : Value} (ho : OwnI w base v (ids f)) (id : Int) :
    Calls Try.prog 47 #[bwV bS, .pointer (some ⟨bX, 0, none⟩), v, .int .i64 id] w fun e w' => e = .returned (.bool true) ∧ Fr (fun _ => False) w w' := by
  have H := hid h
  have HOK := hid h.ok
  have HO := hid ho
  have FA := hid ((Fr.refl (fun _ => False) w).alloc (.cells #[.pointer (some ⟨bS, 0, none⟩)] 27))
  have AB : Hid (At (w.alloc (.cells #[.pointer (some ⟨bS, 0, none⟩)] 27)) w.heap.size 0 (.pointer (some ⟨bS, 0, none⟩))) := At.new w _ _ rfl
  obtain ⟨l, hl⟩ : ∃ l, l = ids f := ⟨_, rfl⟩
  have HL := hid hl
  have hl9 : l.length ≤ 9 := by rw [hl, ids_len]; have := HOK.out.few; omega
  have hl9I : (l.length : Int) ≤ 9 := by omega
  rw [← hl] at HO
  obtain ⟨ia, ic, hiv⟩ : ∃ a c, v = .slice a l.length c := by
    rcases HO.out.empty with ⟨e1, e2⟩ | ⟨g, cap, e1, _⟩
    · exact ⟨none, 0, by rw [e1, e2]; rfl⟩
    · exact ⟨_, cap, e1⟩
  subst hiv
  clear h ho hl
  have HG := hid (igroup_any (H.out.frw FA.out (fun _ _ h => h)) id)
  unfold bwV
  by_cases hgd : goodB id = true
  · obtain ⟨g1, g2⟩ := good_iff.1 hgd
    have g1' : ¬ id < 1 := by omega
    have g2' : ¬ 9 < id := by omega
    by_cases hm : id ∈ l
    · obtain ⟨g, t, hg, ht, hgp, hs, hi64⟩ := ids_got HOK.out (by rw [← HL.out]; exact hm)
      have HM := hid hm
      have HGP := hid hgp
      rw [hgp] at HG
      simp only at HG
      clear hgd hm hgp hs g1 g2
      go_enter Try.func47, Try.ntmps47
      go_wp2_with fail
      refine HG.out.mono ?_
      rintro e w1 ⟨rfl, f1⟩
      have F1 := hid (FA.out.trans f1)
      have AB1 := hid (AB.out.fr f1 (fun h => h))
      have O1 := hid (HO.out.fr F1.out (fun _ _ h => h))
      have X1 := hid (H.out.frw F1.out (fun _ _ h => h))
      clear f1 FA AB HG
      obtain ⟨pb, hpb⟩ : ∃ pb, pb = w.heap.size := ⟨_, rfl⟩
      rw [← hpb] at AB1 ⊢
      clear hpb
      go_wp2_with fail
      go_loop [11] (fun a => ∃ k : Nat, k ≤ l.length ∧ a = .int .i64 k ∧ ∀ j, j < k → l.getD j 0 ≠ id) (fun a => l.length - (intOf a).toNat)
      case atStart => exact ⟨0, by omega, rfl, fun j h => by omega⟩
      case round =>
        obtain ⟨k, hk, rfl, hno⟩ := hrel
        have HNO := hid hno
        clear hno
        have hk0 : (0 : Int) ≤ (k : Int) := by omega
        by_cases hlt : k < l.length
        · have hltI : (k : Int) < (l.length : Int) := by omega
          rcases O1.out.empty with ⟨_, hn⟩ | ⟨gv, cv, hv, hgb, hgl⟩
          · rw [hn] at hlt; simp at hlt
          cases hv
          have cw := (O1.out.cell rfl hlt).c
          by_cases he : l.getD k 0 = id
          · rw [he] at cw
            have cb := AB1.out.c
            clear he
            have HGO := groupof_any X1.out.sr id
            rw [HGP.out] at HGO
            simp only [bwV] at HGO
            have HGO2 := hid HGO
            clear HGO
            go_wp2_with (first
              | (go_at_call 63; refine HGO2.out.mono ?_; rintro e w3 ⟨rfl, f3⟩; have F3 := hid f3; clear f3)
              | fail)
            go_ret
            exact ⟨rfl, F1.out.trans F3.out⟩
          · have heb : (l.getD k 0 == id) = false := by simpa using he
            have HN : Hid (∀ j, j < k + 1 → l.getD j 0 ≠ id) := fun j hj => by
              by_cases e : j = k
              · rw [e]; exact he
              · exact HNO.out j (by omega)
            clear he
            generalize l.getD k 0 = y at *
            go_wp2_with fail
            exact ⟨⟨k + 1, by omega, by go_num, HN.out⟩, by simp [intOf]; omega⟩
        · exfalso
          obtain ⟨j, hj, e⟩ := List.mem_iff_getElem.1 HM.out
          exact HNO.out j (by omega) (by rw [List.getD_eq_getElem?_getD, List.getElem?_eq_getElem hj]; exact e)
    · have hnone : f id = none := by
        obtain e | ⟨d, e⟩ := opt (f id)
        · exact e
        · exact absurd ((ids_mem HOK.out id).2 (by rw [e]; rfl)) (by rw [← HL.out]; exact hm)
      have hgp : getP f id = noGot 6 := by simp [getP, hgd, hnone]
      rw [hgp] at HG
      simp only [noGot] at HG
      have HM := hid hm
      clear hgd hm hgp hnone g1 g2
      go_enter Try.func47, Try.ntmps47
      go_wp2_with fail
      refine HG.out.mono ?_
      rintro e w1 ⟨rfl, f1⟩
      have F1 := hid (FA.out.trans f1)
      have O1 := hid (HO.out.fr F1.out (fun _ _ h => h))
      clear f1 FA AB HG
      go_wp2_with fail
      go_loop [11] (fun a => ∃ k : Nat, k ≤ l.length ∧ a = .int .i64 k) (fun a => l.length - (intOf a).toNat)
      case atStart => exact ⟨0, by omega, rfl⟩
      case round =>
        obtain ⟨k, hk, rfl⟩ := hrel
        have hk0 : (0 : Int) ≤ (k : Int) := by omega
        by_cases hlt : k < l.length
        · have hltI : (k : Int) < (l.length : Int) := by omega
          rcases O1.out.empty with ⟨_, hn⟩ | ⟨gv, cv, hv, hgb, hgl⟩
          · rw [hn] at hlt; simp at hlt
          cases hv
          have cw := (O1.out.cell rfl hlt).c
          have heb : (l.getD k 0 == id) = false := by
            simp only [beq_eq_false_iff_ne, ne_eq]
            intro e
            exact HM.out (by rw [← e]; simp [List.getD, hlt])
          generalize l.getD k 0 = y at *
          go_wp2_with fail
          exact ⟨⟨k + 1, by omega, by go_num⟩, by simp [intOf]; omega⟩
        · have hltI : ¬ (k : Int) < (l.length : Int) := by omega
          go_wp2_with fail
          go_ret
          exact ⟨rfl, F1.out⟩
  · have hgp : getP f id = noGot 2 := by simp [getP, hgd]
    rw [hgp] at HG
    simp only [noGot] at HG
    have hd : id < 1 ∨ 9 < id := by
      by_cases c : 1 ≤ id ∧ id ≤ 9
      · exact absurd (good_iff.2 c) hgd
      · omega
    clear hgd hgp
    rcases hd with hd | hd
    · go_enter Try.func47, Try.ntmps47
      go_wp2_with fail
      refine HG.out.mono ?_
      rintro e w1 ⟨rfl, f1⟩
      have F1 := hid (FA.out.trans f1)
      clear f1
      go_wp2_with fail
      go_ret
      exact ⟨rfl, F1.out⟩
    · have hd1 : ¬ id < 1 := by omega
      go_enter Try.func47, Try.ntmps47
      go_wp2_with fail
      refine HG.out.mono ?_
      rintro e w1 ⟨rfl, f1⟩
      have F1 := hid (FA.out.trans f1)
      clear f1
      go_wp2_with fail
      go_ret
      exact ⟨rfl, F1.out⟩

end Go.Proofs.Qxb6500449a
