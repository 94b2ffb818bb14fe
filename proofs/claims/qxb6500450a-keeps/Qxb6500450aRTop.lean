/- The law's TopOrder. -/
import Derived.Test.Qxb6500450aRGrp
import Derived.Deep.CutBlock
namespace Go.Proofs.Qxb6500450a
open Go Go.RowKit
set_option maxRecDepth 100000
set_option maxHeartbeats 8000000
set_option linter.unusedSimpArgs false
set_option linter.unusedVariables false
variable {bS bX : Nat}

/-- The words that Top(MaxTop) answers. -/
def topT (f : DocF) : List ByteArray := (rankL f).take 4
theorem topL_four (f : DocF) : topL f 4 = topT f := by unfold topL topT; rw [if_pos (by decide)]; rfl
theorem topT_len {f : DocF} (ok : OkF f) : (topT f).length = min 4 (wordsOf f).length := by
  unfold topT; rw [List.length_take, rankL_len ok]
theorem topT_pw (f : DocF) : (topT f).Pairwise (aheadR f) := (rankL_pw f).sublist (List.take_sublist _ _)
theorem topT_next {f : DocF} {m : Nat} (h : m + 1 < (topT f).length) : aheadR f ((topT f).getD m ⟨#[]⟩) ((topT f).getD (m + 1) ⟨#[]⟩) := by
  have := List.pairwise_iff_getElem.1 (topT_pw f) m (m + 1) (by omega) h (by omega)
  simpa [List.getD, h, Nat.lt_of_succ_lt h] using this
theorem topT_mem {f : DocF} (ok : OkF f) {x : ByteArray} (h : x ∈ topT f) : x ∈ wordsOf f := (rankL_mem ok x).1 (List.mem_of_mem_take h)
/-- A word that goes before the last of Top is in Top. -/
theorem topT_all {f : DocF} (ok : OkF f) {x : ByteArray} (hx : x ∈ wordsOf f) {n : Nat} (hn : n + 1 = (topT f).length) (h : aheadR f x ((topT f).getD n ⟨#[]⟩)) : x ∈ topT f := by
  have hr := (rankL_mem ok x).2 hx
  rw [← List.take_append_drop 4 (rankL f), List.mem_append] at hr
  rcases hr with hr | hr
  · exact hr
  · have hp := rankL_pw f
    rw [← List.take_append_drop 4 (rankL f), List.pairwise_append] at hp
    have hm : (topT f).getD n ⟨#[]⟩ ∈ topT f := by
      have : (topT f).getD n ⟨#[]⟩ = (topT f)[n]'(by omega) := by simp [List.getD, show n < (topT f).length by omega]
      rw [this]; exact List.getElem_mem _
    exact absurd (aheadR_trans f _ _ _ h (hp.2.2 _ hm _ hr)) (aheadR_irrefl f _)
theorem topL_head (f : DocF) (ok : OkF f) {k : Nat} (hk : k ≤ 4) : topL f (k : Int) = (topT f).take (min k (topT f).length) := by
  have h0 : topE (k : Int) = 0 := by unfold topE; rw [if_neg (by omega)]
  unfold topL topT
  rw [if_pos h0, Int.toNat_natCast, List.take_take]
  by_cases c : k ≤ ((rankL f).take 4).length
  · congr 1; omega
  · have hl : ((rankL f).take 4).length = min 4 (rankL f).length := List.length_take
    rw [List.take_of_length_le (by omega), List.take_of_length_le (by omega)]

theorem docsOf_frq (f : DocF) (x : ByteArray) : ((docsOf f x).length : Int) = (frq f x : Int) := by rw [docsOf_len]

theorem topOrder_any {w : World} {F : Nat → Prop} {bQ : Nat} {f : DocF} {r : Int → Nat} (h : QR bX bS w F bQ f r) (kk : Int) :
    Calls Try.prog 37 #[bwV bX, .pointer (some ⟨bQ, 0, none⟩), .int .i64 kk] w fun e w' => e = .returned (.bool true) ∧ Fr (fun _ => False) w w' := by
  have OK := hid h.ok
  have FA := hid ((Fr.refl (fun _ => False) w).alloc (.cells #[.pointer (some ⟨bX, 0, none⟩)] 27))
  have A0 : Hid (At (w.alloc (.cells #[.pointer (some ⟨bX, 0, none⟩)] 27)) w.heap.size 0 (.pointer (some ⟨bX, 0, none⟩))) := At.new w _ _ rfl
  have Q0 := hid (h.frw FA.out (fun _ _ h => h))
  clear h
  simp only [bwV]
  go_enter Try.func37, Try.ntmps37
  go_upto_region 1 with fail
  generalize w.alloc (.cells #[.pointer (some ⟨bX, 0, none⟩)] 27) = w0 at *
  generalize w.heap.size = pb at *
  have HT := top_any Q0.out 4
  rw [topL_four f] at HT
  have HT := hid HT
  go_upto_region 2 with (first
    | (go_at_call 25; refine HT.out.mono ?_; rintro e w1 ⟨v1, rfl, o1, n1, f1⟩)
    | go_in)
  have O1 := hid o1
  have N1 := hid n1
  have F1 := hid (FA.out.trans f1)
  have A1 := hid (A0.out.fr f1 (fun h => h))
  have Q1 := hid (Q0.out.frw f1 (fun _ _ h => h))
  clear o1 f1 n1 HT A0 Q0 FA
  have c0 := A1.out.c
  have HK := known_any Q1.out.xr
  simp only [bwV] at HK
  have HK := hid HK
  go_upto_region 3 with (first
    | (go_at_call 64; refine HK.out.mono ?_; rintro e w2 ⟨v2, rfl, o2, f2⟩)
    | go_in)
  have O1 := hid (O1.out.fr f2 (fun _ _ h => h))
  have O2 := hid o2
  have F2 := hid (F1.out.trans f2)
  have A2 := hid (A1.out.fr f2 (fun h => h))
  have Q2 := hid (Q1.out.frw f2 (fun _ _ h => h))
  clear o2 f2 c0 HK F1 A1 Q1
  have hTl := topT_len OK.out
  have hWl := wordsOf_len OK.out
  have HTM : Hid (∀ x ∈ topT f, x ∈ wordsOf f ∧ x.size ≤ 12 ∧ 1 ≤ frq f x) := fun x hx => ⟨topT_mem OK.out hx, (wordsOf_size OK.out (topT_mem OK.out hx)).2, frq_pos OK.out (topT_mem OK.out hx)⟩
  have HNX : Hid (∀ m, m + 1 < (topT f).length → aheadR f ((topT f).getD m ⟨#[]⟩) ((topT f).getD (m + 1) ⟨#[]⟩)) := fun m hm => topT_next hm
  have HAL : Hid (∀ x ∈ wordsOf f, ∀ n, n + 1 = (topT f).length → aheadR f x ((topT f).getD n ⟨#[]⟩) → x ∈ topT f) := fun x hx n hn ha => topT_all OK.out hx hn ha
  have HHD : Hid (∀ k : Nat, k ≤ 4 → topL f (k : Int) = (topT f).take (min k (topT f).length)) := fun k hk => topL_head f OK.out hk
  obtain ⟨T, hT⟩ : ∃ T, T = topT f := ⟨_, rfl⟩
  rw [← hT] at O1 N1 hTl HTM HNX HAL HHD
  clear hT
  obtain ⟨Wd, hW⟩ : ∃ Wd, Wd = wordsOf f := ⟨_, rfl⟩
  rw [← hW] at O2 hTl hWl HTM HAL
  have HWD := hid hW
  clear hW
  obtain ⟨a1, c1, e1⟩ := O1.out.form
  obtain ⟨a2, c2, e2⟩ := O2.out.form
  subst e1 e2
  have hT4 : T.length ≤ 4 := by omega
  have hTI : (T.length : Int) ≤ 4 := by omega
  have hWI : (Wd.length : Int) ≤ 117 := by omega
  have HTL := hid hTl
  clear hTl
  go_upto_if 31 with fail
  go_cut [10] (fun v wx => v = .int .i64 (T.length : Int) ∧ wx = w2)
  case first =>
    by_cases h4 : 4 < Wd.length
    · have h4I : (4 : Int) < (Wd.length : Int) := by omega
      have hTe : T.length = 4 := by have := HTL.out; omega
      have HTE := hid hTe
      clear hTe
      go_wp2_with fail
      go_meet
      case rel => exact ⟨by rw [HTE.out]; rfl, rfl⟩
    · have h4I : ¬ (4 : Int) < (Wd.length : Int) := by omega
      have hTe : T.length = Wd.length := by have := HTL.out; omega
      have HTE := hid hTe
      clear hTe
      go_wp2_with fail
      go_meet
      case rel => exact ⟨by rw [HTE.out], rfl⟩
  case rest =>
    obtain ⟨rfl, hwx⟩ := hcut
    obtain rfl := hwx.symm
    clear hwx
    go_upto_block 0 with fail
    -- the frequency of the last word that was looked at
    obtain ⟨Y, hY⟩ : ∃ Y : Nat → Int, Y = fun i => if i = 0 then 0 else (frq f (T.getD (i - 1) ⟨#[]⟩) : Int) := ⟨_, rfl⟩
    have HYY := hid hY
    clear hY
    go_cut [11] (fun v wx => v = .int .i64 (Y T.length) ∧ Fr (fun _ => False) w2 wx)
    case first =>
      go_wp2_with fail
      go_loopw [11, 12] (fun y a wr => ∃ i : Nat, i ≤ T.length ∧ a = .int .i64 i ∧ y = .int .i64 (Y i) ∧ Fr (fun _ => False) w2 wr) (fun _ a _ => T.length - (intOf a).toNat)
      case atStart => exact ⟨0, by omega, rfl, by rw [HYY.out]; rfl, Fr.refl _ _⟩
      case round =>
        obtain ⟨i, hi, rfl, rfl, fr⟩ := hrel
        have FR := hid fr
        have hi0 : (0 : Int) ≤ (i : Int) := by omega
        clear fr
        by_cases hlt : i < T.length
        · have hltI : (i : Int) < (T.length : Int) := by omega
          rcases O1.out.empty with ⟨_, hn⟩ | ⟨g1, cc1, hv, hgb, hgl1⟩
          · rw [hn] at hlt; simp at hlt
          cases hv
          have CX := hid ((O1.out.cell rfl hlt).fr FR.out (fun h => h))
          obtain ⟨hx1, hx2, hx3⟩ := HTM.out _ (getD_mem hlt)
          have HPV : Hid (∀ m, i = m + 1 → ∃ y, At wr g1 m (.string y) ∧ Y i = (frq f y : Int) ∧ aheadR f y (T.getD i ⟨#[]⟩)) := by
            intro m hm
            subst hm
            refine ⟨T.getD m ⟨#[]⟩, (O1.out.cell rfl (Nat.lt_of_succ_lt hlt)).fr FR.out (fun h => h), ?_, HNX.out m hlt⟩
            rw [HYY.out]
            simp
          have HY0 : Hid (i = 0 → Y i = 0) := fun h0 => by rw [HYY.out]; simp [h0]
          have HY1 : Hid (Y (i + 1) = (frq f (T.getD i ⟨#[]⟩) : Int)) := by rw [HYY.out]; simp [Hid]
          obtain ⟨x, hx⟩ : ∃ x, x = T.getD i ⟨#[]⟩ := ⟨_, rfl⟩
          rw [← hx] at CX hx1 hx2 hx3 HPV HY1
          clear hx
          have cx := CX.out.c
          have QI := hid (Q2.out.frw FR.out (fun _ _ h => h))
          obtain ⟨yv, hyv⟩ : ∃ yv, yv = Y i := ⟨_, rfl⟩
          rw [← hyv] at HPV HY0 ⊢
          clear hyv
          go_upto_region 13 with (first
            | (go_at_call 60; refine (all_any QI.out hx2).mono ?_; rintro e w5 ⟨v5, rfl, o5, f5⟩)
            | go_in)
          have F5 := hid (FR.out.trans f5)
          have FI5 := hid f5
          obtain ⟨z, hz⟩ : ∃ z : Int, z = ((docsOf f x).length : Int) := ⟨_, rfl⟩
          have HZF : Hid (z = (frq f x : Int)) := by rw [hz, docsOf_frq]; exact rfl
          have hz0 : ¬ z ≤ 0 := by have := HZF.out; omega
          obtain ⟨a5, c5, e5⟩ : ∃ a c, v5 = .slice a (docsOf f x).length c := by
            rcases o5.empty with ⟨e1, e2⟩ | ⟨g, cap, e1, _⟩
            · exact ⟨none, 0, by rw [e1, e2]; rfl⟩
            · exact ⟨_, cap, e1⟩
          subst e5
          have hzl := hz.symm
          clear o5 f5 cx QI hz hx1 hx3
          go_upto_region 14 with fail
          clear hzl
          have cx := (CX.out.fr FI5.out (fun h => h)).c
          go_cut [81] (fun c wx => c = .bool false ∧ Fr (fun _ => False) w5 wx)
          case first =>
            have hle : decide (z ≤ 0) = false := decide_eq_false (by omega)
            by_cases hi1 : i = 0
            · subst hi1
              go_wp2_with fail
              go_quiet (fail)
              go_wp2_with fail
              go_meet
              case rel => exact ⟨rfl, (Fr.refl _ _).drewN _⟩
            · obtain ⟨m, rfl⟩ : ∃ m, i = m + 1 := ⟨i - 1, by omega⟩
              obtain ⟨y, CY, hyY, hah⟩ := HPV.out m rfl
              have hw : IntKind.i64.wrap (((m + 1 : Nat) : Int) - 1) = (m : Int) := by rw [show ((m + 1 : Nat) : Int) - 1 = (m : Int) from by omega]; exact Go.IntWalk.i64_in _ (by omega)
              have hp : decide ((0 : Int) < ((m + 1 : Nat) : Int)) = true := decide_eq_true (by omega)
              have hm0 : (0 : Int) ≤ (m : Int) := by omega
              have hmL : (m : Int) < (T.length : Int) := by omega
              have cy := (CY.fr FI5.out (fun h => h)).c
              have hzf := HZF.out
              rcases hah with hah | ⟨hah, hls⟩
              · have hgt : decide (yv < z) = false := decide_eq_false (by omega)
                have hgt' : ¬ yv < z := by omega
                have heq : (z == yv) = false := by simp; omega
                clear CY hyY hah hzf
                go_wp2_with fail
                go_quiet (fail)
                go_wp2_with fail
                go_meet
                case rel => exact ⟨rfl, (Fr.refl _ _).drewN _⟩
              · have hge : z = yv := by omega
                subst hge
                have hbl : Op.bytesLess y.toList x.toList = true := hls
                clear CY hyY hah hzf hls
                go_wp2_with fail
                go_quiet (fail)
                go_wp2_with fail
                go_meet
                case rel => exact ⟨rfl, (Fr.refl _ _).drewN _⟩
          case rest =>
            obtain ⟨rfl, fc⟩ := hcut
            have FC := hid (F5.out.trans fc)
            clear fc cx
            go_wp2_with fail
            exact ⟨⟨i + 1, by omega, by go_num, by rw [HY1.out, HZF.out], FC.out⟩, by simp [intOf]; omega⟩
        · have hltI : ¬ (i : Int) < (T.length : Int) := by omega
          have hie : i = T.length := by omega
          subst hie
          go_wp2_with fail
          go_meet
          case rel => exact ⟨rfl, FR.out⟩
    case rest =>
      obtain ⟨rfl, fc⟩ := hcut
      have FC := hid fc
      clear fc
      go_upto_block 2 with fail
      go_cut [] (fun wx => Fr (fun _ => False) w2 wx)
      case first =>
        go_wp2_with fail
        go_loopw [15] (fun a wr => ∃ i : Nat, i ≤ Wd.length ∧ a = .int .i64 i ∧ Fr (fun _ => False) w2 wr) (fun a _ => Wd.length - (intOf a).toNat)
        case atStart => exact ⟨0, by omega, rfl, FC.out⟩
        case round =>
          clear FC
          obtain ⟨i, hi, rfl, fr⟩ := hrel
          have FR := hid fr
          have hi0 : (0 : Int) ≤ (i : Int) := by omega
          clear fr
          by_cases hlt : i < Wd.length
          · have hltI : (i : Int) < (Wd.length : Int) := by omega
            have hTp : T.length ≠ 0 := by have := HTL.out; omega
            obtain ⟨n, hn⟩ : ∃ n, T.length = n + 1 := ⟨T.length - 1, by omega⟩
            rcases O2.out.empty with ⟨_, hn⟩ | ⟨g2, cc2, hv, hgb, hgl2⟩
            · rw [hn] at hlt; simp at hlt
            cases hv
            rcases O1.out.empty with ⟨_, hn'⟩ | ⟨g1, cc1, hv, hgb1, hgl1⟩
            · rw [hn'] at hn; simp at hn
            cases hv
            have CW := hid ((O2.out.cell rfl hlt).fr FR.out (fun h => h))
            have CL := hid ((O1.out.cell rfl (show n < T.length by omega)).fr FR.out (fun h => h))
            have hmem := getD_mem hlt
            have HIN : Hid (aheadR f (Wd.getD i ⟨#[]⟩) (T.getD n ⟨#[]⟩) → Wd.getD i ⟨#[]⟩ ∈ T) := fun ha => HAL.out _ hmem n hn.symm ha
            have HYT : Hid (Y T.length = (frq f (T.getD n ⟨#[]⟩) : Int)) := by rw [HYY.out, hn]; simp [Hid]
            clear hmem
            obtain ⟨x, hx⟩ : ∃ x, x = Wd.getD i ⟨#[]⟩ := ⟨_, rfl⟩
            obtain ⟨y, hy⟩ : ∃ y, y = T.getD n ⟨#[]⟩ := ⟨_, rfl⟩
            rw [← hx] at CW HIN
            rw [← hy] at CL HIN HYT
            clear hx hy
            obtain ⟨yv, hyv⟩ : ∃ yv, yv = Y T.length := ⟨_, rfl⟩
            rw [← hyv] at HYT ⊢
            clear hyv
            have HN := hid hn
            have hLw : IntKind.i64.wrap ((T.length : Int) - 1) = (n : Int) := by rw [show (T.length : Int) - 1 = (n : Int) from by omega]; exact Go.IntWalk.i64_in _ (by omega)
            have hTp' : 0 < T.length := by omega
            have hnT : (n : Int) < (T.length : Int) := by omega
            have hn0 : (0 : Int) ≤ (n : Int) := by omega
            clear hn hTp
            have AI := hid (A2.out.fr FR.out (fun h => h))
            have HH : Hid (∀ W, Fr (fun _ => False) wr W → Calls Try.prog 61 #[.agg #[.pointer (some ⟨bX, 0, none⟩)], .string x] W fun e w' => ∃ v, e = .returned v ∧ OwnI w' W.heap.size v (docsOf f x) ∧ Fr (fun _ => False) W w') := by
              intro W hW
              have := holdersB_any ((Q2.out.xr.frw FR.out (fun _ _ h => h)).frw hW (fun _ _ h => h)) x
              simp only [bwV] at this
              exact this
            have ca := AI.out.c
            have cw := CW.out.c
            have la := AI.out.lt
            have lw := CW.out.lt
            go_upto_region 20 with fail
            go_cut [16] (fun v wx => ∃ a c, v = .slice a (docsOf f x).length c ∧ Fr (fun _ => False) wr wx)
            case first =>
              go_region_with (go_at_call 61; refine (HH.out _ (by exact (Fr.refl _ _).drew)).mono ?_; rintro e x7 ⟨v7, rfl, o7, f7⟩; have F7 := hid ((Fr.refl (fun _ => False) wr).drew.trans f7); have O7 := hid o7)
              all_goals go_wp2_with fail
              all_goals go_meet
              all_goals (rcases O7.out.empty with ⟨e1, e2⟩ | ⟨g, cap, e1, _⟩)
              all_goals first
                | exact ⟨none, 0, by rw [e1, e2]; rfl, F7.out⟩
                | exact ⟨_, cap, e1, F7.out⟩
            case rest =>
              obtain ⟨a5, c5, rfl, fc⟩ := hcut
              have FC := hid (FR.out.trans fc)
              have CWC := hid (CW.out.fr fc (fun h => h))
              have CLC := hid (CL.out.fr fc (fun h => h))
              clear fc ca cw la lw HH
              obtain ⟨z, hz⟩ : ∃ z : Int, z = ((docsOf f x).length : Int) := ⟨_, rfl⟩
              have HZF : Hid (z = (frq f x : Int)) := by rw [hz, docsOf_frq]; exact rfl
              have hzl := hz.symm
              clear hz
              have cw := CWC.out.c
              have cl := CLC.out.c
              go_upto_region 21 with fail
              go_cut [122] (fun c wx => ∃ b, c = .bool b ∧ (b = true → x ∈ T) ∧ Fr (fun _ => False) wc wx)
              case first =>
                have hzf := HZF.out
                have hyf := HYT.out
                by_cases h1 : yv < z
                · have hd1 : decide (yv < z) = true := decide_eq_true h1
                  have HI := hid (HIN.out (.inl (by omega)))
                  clear hzf hyf
                  go_wp2_with fail
                  go_quiet (fail)
                  go_wp2_with fail
                  go_meet
                  case rel => exact ⟨_, rfl, fun _ => HI.out, (Fr.refl _ _).drewN _⟩
                · have hd1 : decide (yv < z) = false := decide_eq_false h1
                  by_cases h2 : z = yv
                  · subst h2
                    by_cases h3 : ltS x y
                    · have hbl : Op.bytesLess x.toList y.toList = true := h3
                      have HI := hid (HIN.out (.inr ⟨by omega, h3⟩))
                      clear hzf hyf h3
                      go_wp2_with fail
                      go_quiet (fail)
                      go_wp2_with fail
                      go_meet
                      case rel => exact ⟨_, rfl, fun _ => HI.out, (Fr.refl _ _).drewN _⟩
                    · have hbl : Op.bytesLess x.toList y.toList = false := by unfold ltS at h3; simpa using h3
                      clear hzf hyf h3
                      go_wp2_with fail
                      go_quiet (fail)
                      go_wp2_with fail
                      go_meet
                      case rel => exact ⟨_, rfl, fun h => (by cases h), (Fr.refl _ _).drewN _⟩
                  · have hne : (z == yv) = false := by simp [h2]
                    clear hzf hyf h2
                    go_wp2_with fail
                    go_quiet (fail)
                    go_wp2_with fail
                    go_meet
                    case rel => exact ⟨_, rfl, fun h => (by cases h), (Fr.refl _ _).drewN _⟩
              case rest =>
                obtain ⟨b, rfl, hbx, fc⟩ := hcut
                have FC2 := hid (FC.out.trans fc)
                have HBX := hid hbx
                have cw2 := (CWC.out.fr fc (fun h => h)).c
                have O1C := hid ((O1.out.fr FC.out (fun _ _ h => h)).fr fc (fun _ _ h => h))
                clear fc hbx cw cl hzl
                cases b
                · go_wp2_with fail
                  exact ⟨⟨i + 1, by omega, by go_num, FC2.out⟩, by simp [intOf]; omega⟩
                · have hd : decide (x ∈ T) = true := decide_eq_true (HBX.out rfl)
                  have HAM := among_any O1C.out (by omega) x
                  rw [hd] at HAM
                  have HAM := hid HAM
                  clear hd
                  go_wp2_with (first
                    | (go_at_call 65; refine HAM.out.mono ?_; rintro e w6 ⟨rfl, hw6⟩; obtain rfl := hw6.symm)
                    | go_in)
                  exact ⟨⟨i + 1, by omega, by go_num, FC2.out⟩, by simp [intOf]; omega⟩
          · have hltI : ¬ (i : Int) < (Wd.length : Int) := by omega
            go_wp2_with fail
            go_meet
            case rel => exact FR.out
      case rest =>
        have FD := hid hcut
        clear hcut FC
        have QD := hid (Q2.out.frw FD.out (fun _ _ h => h))
        have O1D := hid (O1.out.fr FD.out (fun _ _ h => h))
        have F3 := hid (F2.out.trans FD.out)
        clear A2 Q2 O1 O2 FD HYY HAL HNX
        by_cases hk1 : kk < 0
        · go_wp2_with fail
          go_ret
          exact ⟨rfl, F3.out⟩
        by_cases hk4 : 4 < kk
        · go_wp2_with fail
          go_ret
          exact ⟨rfl, F3.out⟩
        obtain ⟨k, rfl⟩ : ∃ k : Nat, kk = (k : Int) := ⟨kk.toNat, by omega⟩
        have hk44 : k ≤ 4 := by omega
        have HT := top_any QD.out (k : Int)
        rw [HHD.out k hk44] at HT
        have HT := hid HT
        go_upto_region 28 with (first
          | (go_at_call 25; refine HT.out.mono ?_; rintro e w5 ⟨v5, rfl, o5, n5, f5⟩)
          | go_in)
        have O5 := hid o5
        have O1E := hid (O1D.out.fr f5 (fun _ _ h => h))
        have F5 := hid (F3.out.trans f5)
        clear o5 n5 f5 HT QD O1D F3
        obtain ⟨q, hq⟩ : ∃ q, q = min k T.length := ⟨_, rfl⟩
        rw [← hq] at O5
        have hqT : q ≤ T.length := by omega
        have HQK : Hid (q = min k T.length) := hq
        clear hq
        obtain ⟨a5, c5, e5⟩ := O5.out.form
        have hlq : (T.take q).length = q := by rw [List.length_take]; omega
        rw [hlq] at e5
        have HLQ := hid hlq
        subst e5
        clear hlq
        go_upto_if 146 with fail
        go_cut [19] (fun v wx => v = .int .i64 (q : Int) ∧ wx = w5)
        case first =>
          by_cases hkT : T.length < k
          · have hkI : (T.length : Int) < (k : Int) := by omega
            have hqe : q = T.length := by have := HQK.out; omega
            have HQE := hid hqe
            clear hqe
            go_wp2_with fail
            go_meet
            case rel => exact ⟨by rw [HQE.out], rfl⟩
          · have hkI : ¬ (T.length : Int) < (k : Int) := by omega
            have hqe : q = k := by have := HQK.out; omega
            have HQE := hid hqe
            clear hqe
            go_wp2_with fail
            go_meet
            case rel => exact ⟨by rw [HQE.out], rfl⟩
        case rest =>
          obtain ⟨rfl, hwx⟩ := hcut
          obtain rfl := hwx.symm
          clear hwx
          have HTS : Hid (∀ x ∈ T.take q, x.size ≤ 12) := fun x hx => (HTM.out x (List.mem_of_mem_take hx)).2.1
          have HS5 := strs_any O5.out HTS.out (by rw [HLQ.out]; omega)
          have HS5 := hid HS5
          go_upto_region 33 with (first
            | (go_at_call 55; refine HS5.out.mono ?_; rintro e w6 ⟨rfl, hw6⟩; obtain rfl := hw6.symm)
            | go_in)
          clear HS5
          rcases O1E.out.empty with ⟨hv, hn⟩ | ⟨g1, cc1, hv, hgb, hgl1⟩
          · have hT0 : T.length = 0 := by rw [hn]; rfl
            have hq0 : q = 0 := by omega
            subst hq0
            subst hn
            simp only [Value.slice.injEq] at hv
            obtain ⟨rfl, _, rfl⟩ := hv
            have hsl : ∀ W, (Instr.slice 59 (.slice none 0 0) none (some (.int .i64 0)) none).run Try.prog W = .ok (.slice none 0 0) W := fun W => by kernel_rfl
            have HS6 := strs_any (OwnS.nil w5 0) (by simp) (by simp)
            have HS6 := hid HS6
            go_wp2_with (first
              | (go_at_call 55; refine HS6.out.mono ?_; rintro e w6 ⟨rfl, hw6⟩; obtain rfl := hw6.symm)
              | go_in)
            go_ret
            exact ⟨by simp, F5.out⟩
          · cases hv
            have HS6 : Hid (∀ W base, OwnS W base (.slice (some ⟨g1, 0, none⟩) q c1) (T.take q) → Calls Try.prog 55 #[.slice (some ⟨g1, 0, none⟩) q c1] W fun e w' => e = .returned (.string (bs (strs (T.take q)))) ∧ w' = W) := fun W base hW => strs_any hW HTS.out (by rw [HLQ.out]; omega)
            generalize bs (strs (T.take q)) = s5 at *
            go_wp2_with (first
              | (refine wp_takeS rfl rfl O1E.out rfl rfl (q := q) rfl hqT ?_; intro o6)
              | (go_at_call 55; refine (HS6.out _ _ o6).mono ?_; rintro e w6 ⟨rfl, hw6⟩; obtain rfl := hw6.symm)
              | go_in)
            go_ret
            exact ⟨by simp, F5.out⟩

end Go.Proofs.Qxb6500450a
