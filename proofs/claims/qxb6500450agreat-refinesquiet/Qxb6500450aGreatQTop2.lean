/- ranked, Top. -/
import Derived.Test.Qxb6500450aGreatQTop
namespace Go.Proofs.Qxb6500450aGreat
open Go Go.RowKit
set_option maxRecDepth 100000
set_option maxHeartbeats 1600000
set_option linter.unusedSimpArgs false
set_option linter.unusedVariables false
variable {bS bX : Nat}

theorem ranked_any {w : World} {b n : Nat} {f : DocF} (ok : OkF f) (h : MapF sk w b (fqm f (wordsOf f)) n) (hn : n ≤ 900) :
    Calls Tryz.prog 60 #[.map (some b)] w fun e w' => ∃ v, e = .returned v ∧ OwnS w' w.heap.size v (rankL f) ∧ Fr (fun _ => False) w w' := by
  have H := hid h
  have OK := hid ok
  have l1 := h.len (P := Tryz.prog) (ty := 3) uFreq
  obtain ⟨w0, e0, o0, f0⟩ := make_strs w n (by omega)
  have O0 := hid o0
  have F0 := hid f0
  have M0 := hid (h.fr f0 (fun h => h))
  obtain ⟨p, hp⟩ : ∃ p, p = w.heap.size := ⟨_, rfl⟩
  rw [← hp] at e0 O0
  have HP := hid hp
  clear h ok o0 f0 hp
  go_enter Tryz.func60, Tryz.ntmps60
  go_upto_region 2 with fail
  clear e0 l1
  have HZ0 : Hid (p < w0.heap.size) := (O0.out.lt rfl).2
  go_wp2_with (first
    | (at_range; refine wp_range rfl rfl uFreq M0.out rfl ?_; intro w1 left0 rg1 ln1 lm1 f1 z1; go_frame)
    | go_in)
  obtain ⟨rb, hrb⟩ : ∃ rb, rb = w0.heap.size := ⟨_, rfl⟩
  rw [← hrb] at rg1 z1 HZ0 ⊢
  have HRB : Hid (rb = w0.heap.size ∧ w.heap.size ≤ rb) := ⟨hrb, by rw [hrb]; exact F0.out.size⟩
  have L1 : Hid (∀ k, k ∈ left0 ↔ k ∈ wordsOf f) := fun k => by rw [lm1 k, fqm_some]; simp
  have O1 := hid (O0.out.fr f1 (fun _ _ h => h))
  have F1 := hid (F0.out.trans f1)
  clear hrb ln1 lm1 f1
  go_loopw [3] (fun v wr => ∃ left S g cap, Ranges sk wr b rb (fqm f (wordsOf f)) left ∧ v = .slice (some ⟨g, 0, none⟩) S.length cap ∧ (g = p ∨ rb < g) ∧ OwnS wr p v S ∧ S.Pairwise (aheadR f) ∧ (∀ k, k ∈ S ↔ k ∈ wordsOf f ∧ k ∉ left) ∧ Fr (fun _ => False) w wr ∧ rb + 1 ≤ wr.heap.size) (fun _ wr => wr.rangeLeft b rb)
  case atStart => exact ⟨left0, [], p, n, rg1, rfl, .inl rfl, O1.out, List.Pairwise.nil, fun k => by have := L1.out k; simp; exact fun h => this.2 h, F1.out, by omega⟩
  case round =>
    clear O1 F1 O0
    obtain ⟨left, S, g0, cap0, rg, rfl, hg0, hown, hpw, hmem, fr, hsz⟩ := hrel
    have RG := hid rg
    have OW := hid hown
    have PW := hid hpw
    have ME := hid hmem
    have FR := hid fr
    have hrS := rg.ne
    have hlS : S.length ≤ 117 := by
      have h1 : S.length ≤ (wordsOf f).length := nodup_lenB (by
        unfold List.Nodup
        refine hpw.imp ?_
        intro a b hab e
        subst e
        exact aheadR_irrefl f _ hab) (fun x hx => ((hmem x).1 hx).1)
      have := wordsOf_len OK.out
      omega
    clear fr hown hpw hmem
    rcases rg.next (P := Tryz.prog) 0 with ⟨hnil, hrun⟩ | ⟨k, vv, w2, hk, hv, hrun, hen, rg2, f2, z2⟩
    · clear rg
      subst hnil
      have HE : Hid (S = rankL f) := pw_ext (aheadR_irrefl f) (aheadR_trans f) PW.out (rankL_pw f) (fun x => by rw [ME.out x, rankL_mem OK.out]; simp)
      go_wp2_with fail
      go_ret
      rw [← HE.out]
      exact ⟨_, rfl, OW.out.base (by have := HP.out; omega), FR.out⟩
    · have hvv : vv = .int .i64 (frq f k : Int) := by
        unfold fqm at hv
        split at hv
        · cases hv; rfl
        · cases hv
      subst hvv
      have OW2 := hid (OW.out.fr f2 (fun j hj e => by simp [Value.ownBlock] at hj; have := HZ0.out; omega))
      have FR2 := hid (FR.out.then f2 (fun i hi e => by have := HRB.out; omega))
      have RG2 := hid rg2
      have HK := hid hk
      have hz2 : rb + 1 ≤ w2.heap.size := by omega
      have HF : Hid (k ∈ wordsOf f) := by have := rg.here hk; rw [fqm_some] at this; simpa [Hid] using this
      have HRL := hid rg.left_eq
      simp only [sk] at hrun hen
      clear rg rg2 hv f2 z2 OW
      clear hk
      have hpb : p ≠ b := fun e => by have := H.out.lt; have := HP.out; omega
      go_wp2_with (first
        | (at_builtin; refine wp_appS rfl rfl (v := .slice (some ⟨g0, 0, none⟩) S.length cap0) rfl (OW2.out.fr ((Fr.refl (fun _ => False) _).alloc _) (fun _ _ h => h)) rfl (y := k) (At.new w2 #[.string k] _ rfl).c (by omega) (by have := HZ0.out; simp; omega) ?_; intro g cap w3 ow3 f3 hg3 hl3)
        | go_in)
      have hgp : g = p ∨ rb < g := by
        rcases hg3 with e | e
        · simp [Value.ownBlock] at e; omega
        · simp at e; omega
      have hgb : g ≠ b := fun e => by have := H.out.lt; have := HP.out; have := HRB.out; omega
      have hgr : g ≠ rb := fun e => by have := HZ0.out; omega
      have f03 : Fr (fun _ => False) w w3 := (FR2.out.alloc _).then f3 (fun i hi e => by simp [Value.ownBlock] at e; have := HP.out; have := HRB.out; omega)
      have RG3 := hid ((RG2.out.fr ((Fr.refl (fun _ => False) _).alloc _) (fun h => h) (fun h => h)).fr f3 (fun e => by simp [Value.ownBlock] at e; have := H.out.lt; have := HP.out; have := HRB.out; omega) (fun e => by simp [Value.ownBlock] at e; have := HZ0.out; omega))
      have F03 := hid f03
      have OW3 := hid ow3
      have hz3 : rb + 1 ≤ w3.heap.size := by have := f3.size; simp at this; omega
      clear ow3 f3 hg3 f03 OW2 FR2 RG2 hrun hen hz2
      have FIN : Hid (∀ (wi : World) (j : Nat), j ≤ S.length → OwnS wi p (.slice (some ⟨g, 0, none⟩) (S.length + 1) cap) (insG S j k) → (∀ y ∈ S.drop j, aheadR f k y) → Fr (fun i => i = g) w3 wi → (j = 0 ∨ ∃ i, j = i + 1 ∧ ∃ hi : i < S.length, aheadR f S[i] k) →
          (∃ left S' g' cap', Ranges sk wi b rb (fqm f (wordsOf f)) left ∧ Value.slice (some ⟨g, 0, none⟩) (S.length + 1) cap = .slice (some ⟨g', 0, none⟩) S'.length cap' ∧ (g' = p ∨ rb < g') ∧ OwnS wi p (.slice (some ⟨g, 0, none⟩) (S.length + 1) cap) S' ∧ S'.Pairwise (aheadR f) ∧ (∀ k, k ∈ S' ↔ k ∈ wordsOf f ∧ k ∉ left) ∧ Fr (fun _ => False) w wi ∧ rb + 1 ≤ wi.heap.size) ∧ wi.rangeLeft b rb < wr.rangeLeft b rb) := by
        intro wi j hj ow hgt fi hc
        have rgi := RG3.out.fr fi (fun e => hgb e.symm) (fun e => hgr e.symm)
        refine ⟨⟨left.filter (· ≠ k), insG S j k, g, cap, rgi, by rw [insG_len _ _ _ hj], hgp, ow, insG_pw (aheadR_trans f) PW.out hj hgt hc, fun y => ?_, F03.out.then fi (fun i hi e => by have := HP.out; have := HRB.out; omega), Nat.le_trans hz3 fi.size⟩, ?_⟩
        · rw [insG_mem, ME.out y, List.mem_filter]
          by_cases e : y = k
          · subst e; simp [HF.out]
          · simp [e]
        · rw [rgi.left_eq, HRL.out]; exact filter_ltB HK.out
      have hkS : Hid (k ∉ S) := fun h => ((ME.out k).1 h).2 HK.out
      have hSm : Hid (∀ y ∈ S, y ∈ wordsOf f) := fun y hy => ((ME.out y).1 hy).1
      go_loopw [5] (fun i wi => ∃ j : Nat, j ≤ S.length ∧ i = .int .i64 j ∧ OwnS wi p (.slice (some ⟨g, 0, none⟩) (S.length + 1) cap) (insG S j k) ∧ (∀ y ∈ S.drop j, aheadR f k y) ∧ Fr (fun i => i = g) w3 wi) (fun i _ => (intOf i).toNat)
      case atStart => exact ⟨S.length, Nat.le_refl _, by go_num, by rw [insG_end]; exact OW3.out, by simp, Fr.refl _ _⟩
      case round =>
        clear OW3
        obtain ⟨j, hj, rfl, ow, hgt, fi⟩ := hrel
        have OW := hid ow
        have GT := hid hgt
        have FI := hid fi
        cases j with
        | zero =>
          clear ow hgt fi
          go_wp2_with fail
          exact FIN.out _ 0 hj OW.out GT.out FI.out (.inl rfl)
        | succ j =>
          have hjl : j < S.length := by omega
          have a0 := ow.cell (by rw [insG_len _ _ _ hj]) (j := j) (by rw [insG_len _ _ _ hj]; omega)
          have a1 := ow.cell (by rw [insG_len _ _ _ hj]) (j := j + 1) (by rw [insG_len _ _ _ hj]; omega)
          rw [insG_before S j k _ hjl] at a0
          rw [insG_at S (j + 1) k _ hj] at a1
          have A0 := hid a0
          have A1 := hid a1
          have hw : IntKind.i64.wrap (((j + 1 : Nat) : Int) - 1) = (j : Int) := by rw [show ((j + 1 : Nat) : Int) - 1 = (j : Int) from by omega]; exact Go.IntWalk.i64_in _ (by omega)
          have hp0 : (0 : Int) < ((j + 1 : Nat) : Int) := by omega
          have hj0 : (0 : Int) ≤ (j : Int) := by omega
          have hjb : (j : Int) < ((S.length + 1 : Nat) : Int) := by omega
          have hjc : (j : Int) < (S.length : Int) + 1 := by omega
          have hne : Hid (k ≠ S[j]) := fun e => hkS.out (e ▸ List.getElem_mem _)
          have hyw : S[j] ∈ wordsOf f := hSm.out _ (List.getElem_mem _)
          have MB := hid ((RG3.out.fr fi (fun e => hgb e.symm) (fun e => hgr e.symm)).map)
          clear ow hgt fi a0 a1
          obtain ⟨y, hy⟩ : ∃ y, y = S[j] := ⟨_, rfl⟩
          rw [← hy] at A0 hyw hne
          have HY := hid hy
          clear hy
          have HAH : Hid (∀ W, Fr (fun _ => False) wr W → Calls Tryz.prog 85 #[.map (some b), .string k, .string y] W fun e w' => e = .returned (.bool (decide (aheadR f k y))) ∧ w' = W) := by
            intro W hW
            obtain ⟨nb, mb⟩ := MB.out
            exact ahead_any (mb.fr hW (fun h => h)) HF.out hyw
          obtain ⟨bb, hbb⟩ : ∃ bb, bb = decide (aheadR f k y) := ⟨_, rfl⟩
          rw [← hbb] at HAH
          have HBB := hid hbb
          clear hbb
          have c0 := A0.out.c
          have c1 := A1.out.c
          have hjI : (j : Int) ≤ 117 := by omega
          have hmL : ((j + 1 : Nat) : Int) < ((S.length + 1 : Nat) : Int) := by omega
          have hm0 : (0 : Int) ≤ ((j + 1 : Nat) : Int) := by omega
          clear hjc
          generalize hm : j + 1 = m at *
          generalize hL : S.length + 1 = L at *
          have HM := hid hm
          have HL := hid hL
          clear hm hL
          go_upto_region 9 with fail
          go_cut [37] (fun c wx => c = .bool (!bb) ∧ Fr (fun _ => False) wr wx)
          case first =>
            go_region_with (go_at_call 85; refine (HAH.out _ (by exact (Fr.refl _ _).drew)).mono ?_; rintro e x7 ⟨rfl, hx7⟩; obtain rfl := hx7.symm)
            all_goals go_wp2_with fail
            all_goals go_meet
            all_goals exact ⟨rfl, (Fr.refl _ _).drew⟩
          case rest =>
            obtain ⟨rfl, fc⟩ := hcut
            have FC := hid fc
            have OWC := hid (OW.out.fr fc (fun _ _ h => h))
            have FIC := hid (FI.out.trans (fc.mono (fun _ _ h => h.elim)))
            have d0 := A0.out.fr fc (fun h => h)
            have d1 := A1.out.fr fc (fun h => h)
            clear fc c0 c1 HAH MB
            cases bb
            · have hnah : ¬ aheadR f k y := of_decide_eq_false HBB.out.symm
              have hah := aheadR_tri f hnah hne.out
              rw [HY.out] at hah
              have HAR := hid hah
              clear hnah hah d0 d1
              go_wp2_with fail
              have hm := HM.out
              have hL := HL.out
              subst hm
              subst hL
              exact FIN.out _ (j + 1) hj OWC.out GT.out FIC.out (.inr ⟨j, rfl, hjl, HAR.out⟩)
            · have HAR := hid (of_decide_eq_true (p := aheadR f k y) HBB.out.symm)
              have k0 := d0.c
              have k1 := d1.c
              have x0 := d0.f
              have x1 := d1.f
              clear d0 d1
              go_upto_region 10 with fail
              have hjm1 : ¬ m = j := by have := HM.out; omega
              have hjm2 : ¬ j = m := by have := HM.out; omega
              go_region
              have h1 := (OWC.out.set (by rw [← HM.out, insG_len _ _ _ (by omega)]; exact HL.out.symm) m y).set (by rw [List.length_set, ← HM.out, insG_len _ _ _ (by omega)]; exact HL.out.symm) j k
              have e1 : ((insG S m k).set m y).set j k = insG S j k := by
                rw [← HM.out, HY.out]
                exact insG_swap S j k hjl
              rw [e1] at h1
              have OWX := hid (h1.fr ((Fr.refl (fun _ => False) _).drew) (fun _ _ h => h))
              have FX := hid ((FIC.out.setCell (p := ⟨g, m, none⟩) (fun _ => rfl) (.string y)).setCell (p := ⟨g, j, none⟩) (fun _ => rfl) (.string k)).drew
              clear h1 e1 k0 k1 x0 x1
              generalize ((wc.setCell ⟨g, m, none⟩ (.string y)).setCell ⟨g, j, none⟩ (.string k)).drew = we at *
              go_wp2_with fail
              have hL := HL.out
              subst hL
              refine ⟨⟨j, by omega, by go_num, OWX.out, ?_, FX.out⟩, by simp [intOf]; have := HM.out; omega⟩
              intro z hz
              rw [List.drop_eq_getElem_cons hjl] at hz
              rcases List.mem_cons.1 hz with rfl | hz
              · rw [← HY.out]; exact HAR.out
              · exact GT.out z (by rw [← HM.out]; exact hz)

end Go.Proofs.Qxb6500450aGreat
