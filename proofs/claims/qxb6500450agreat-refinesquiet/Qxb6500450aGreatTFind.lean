/- The model's in, Find, Groups. -/
import Derived.Test.Qxb6500450aGreatTRep
namespace Go.Proofs.Qxb6500450aGreat
open Go Go.RowKit
set_option maxRecDepth 100000
set_option maxHeartbeats 3200000
set_option linter.unusedSimpArgs false
set_option linter.unusedVariables false
variable {bY bM : Nat}

theorem in_any {w : World} {base : Nat} {v : Value} {l : List Int} (h : OwnI w base v l) (hl : l.length ≤ 1000) (x : Int) :
    Calls Tryz.prog 68 #[v, .int .i64 x] w fun e w' => e = .returned (.bool (decide (x ∈ l))) ∧ w' = w := by
  have OW := hid h
  obtain ⟨va, vc, hv⟩ : ∃ a c, v = .slice a l.length c := by
    rcases h.empty with ⟨e1, e2⟩ | ⟨g, cap, e1, _⟩
    · exact ⟨none, 0, by rw [e1, e2]; rfl⟩
    · exact ⟨_, cap, e1⟩
  subst hv
  have hlI : (l.length : Int) ≤ 1000 := by omega
  clear h
  go_enter Tryz.func68, Tryz.ntmps68
  go_wp2_with fail
  go_loop [5] (fun a => ∃ k : Nat, k ≤ l.length ∧ a = .int .i64 k ∧ x ∉ l.take k) (fun a => l.length - (intOf a).toNat)
  case atStart => exact ⟨0, by omega, rfl, by simp⟩
  case round =>
    obtain ⟨k, hk, rfl, hno⟩ := hrel
    have HNO := hid hno
    have hk0 : (0 : Int) ≤ (k : Int) := by omega
    clear hno
    by_cases hlt : k < l.length
    · have hltI : (k : Int) < (l.length : Int) := by omega
      rcases OW.out.empty with ⟨_, hn⟩ | ⟨gv, cv, hv, hgb, hgl⟩
      · rw [hn] at hlt; simp at hlt
      cases hv
      have cw := (OW.out.cell rfl hlt).c
      have HTK : Hid (l.take (k + 1) = l.take k ++ [l.getD k 0]) := by
        unfold Hid
        have : l.getD k 0 = l[k] := by simp [List.getD, hlt]
        rw [List.take_succ_eq_append_getElem hlt, this]
      have HM : Hid (l.getD k 0 ∈ l) := by unfold Hid; simp [List.getD, hlt]
      generalize l.getD k 0 = y at *
      by_cases heq : y = x
      · have hbe : (y == x) = true := by simp [heq]
        have HY : Hid (decide (x ∈ l) = true) := by rw [← heq]; unfold Hid; exact decide_eq_true HM.out
        clear heq
        go_wp2_with fail
        go_ret
        rw [HY.out]
        exact ⟨rfl, rfl⟩
      · have hbe : (y == x) = false := by simp [heq]
        have HN2 : Hid (x ∉ l.take (k + 1)) := by
          unfold Hid
          rw [HTK.out, List.mem_append]
          rintro (c | c)
          · exact HNO.out c
          · simp at c; exact heq c.symm
        clear heq
        go_wp2_with fail
        exact ⟨⟨k + 1, by omega, by go_num, HN2.out⟩, by simp [intOf]; omega⟩
    · have hltI : ¬ (k : Int) < (l.length : Int) := by omega
      have HY : Hid (decide (x ∈ l) = false) := by
        have := HNO.out
        rw [List.take_of_length_le (by omega)] at this
        unfold Hid
        exact decide_eq_false this
      go_wp2_with fail
      go_ret
      rw [HY.out]
      exact ⟨rfl, rfl⟩

/-- The ids 1 .. n that are taken. -/
def upto (d : Int → Bool) (n : Nat) : List Int := (nine.take n).filter d
theorem upto_succ (d : Int → Bool) {n : Nat} (hn : n < 9) : upto d (n + 1) = upto d n ++ (if d ((n : Int) + 1) then [(n : Int) + 1] else []) := by
  have h9 : nine.length = 9 := rfl
  unfold upto
  rw [List.take_succ_eq_append_getElem (by omega), List.filter_append]
  have : nine[n]'(by omega) = (n : Int) + 1 := by
    have : n = 0 ∨ n = 1 ∨ n = 2 ∨ n = 3 ∨ n = 4 ∨ n = 5 ∨ n = 6 ∨ n = 7 ∨ n = 8 := by omega
    rcases this with rfl | rfl | rfl | rfl | rfl | rfl | rfl | rfl | rfl <;> rfl
  rw [this]
  by_cases c : d ((n : Int) + 1) = true
  · simp [c]
  · simp [c]
theorem upto_all (d : Int → Bool) : upto d 9 = nine.filter d := rfl
theorem upto_len (d : Int → Bool) (n : Nat) : (upto d n).length ≤ 9 := by
  refine Nat.le_trans (List.length_filter_le _ _) ?_
  rw [List.length_take]
  have h9 : nine.length = 9 := rfl
  omega

theorem vfind_any {w : World} {G : Nat → Prop} {bV : Nat} {f : DocF} {r : Int → Nat} (h : VR bY bM w G bV f r) (hG : ∀ i, G i → i < w.heap.size) (op : Int) (a b : ByteArray) :
    Calls Tryz.prog 36 #[.pointer (some ⟨bV, 0, none⟩), .int .i64 op, .string a, .string b] w fun e w' => ∃ v, e = .returned (.tuple #[v, .int .i64 (findE op a b)]) ∧ OwnI w' w.heap.size v (findL f op a b) ∧ (findL f op a b = [] → v = .slice none 0 0) ∧ VR bY bM w' G bV f r ∧ Fr G w w' := by
  have HV := hid h
  have HGB := hid hG
  have HO := hid h.ok
  clear hG
  by_cases hA : 12 < a.size
  · have HE : Hid (findE op a b = 1) := by unfold Hid findE; rw [if_pos (.inl hA)]
    have HL : Hid (findL f op a b = []) := by unfold Hid findL; rw [HE.out, if_neg (by omega)]
    have hAI : (12 : Int) < (a.size : Int) := by omega
    clear hA h
    go_enter Tryz.func36, Tryz.ntmps36
    go_wp2_with fail
    go_ret2
    rw [HE.out, HL.out]
    exact ⟨_, rfl, OwnI.nil _ _, fun _ => rfl, HV.out, Fr.refl _ _⟩
  have hAI : ¬ (12 : Int) < (a.size : Int) := by omega
  by_cases hB : 12 < b.size
  · have HE : Hid (findE op a b = 1) := by unfold Hid findE; rw [if_pos (.inr hB)]
    have HL : Hid (findL f op a b = []) := by unfold Hid findL; rw [HE.out, if_neg (by omega)]
    have hBI : (12 : Int) < (b.size : Int) := by omega
    clear hA hB h
    go_enter Tryz.func36, Tryz.ntmps36
    go_wp2_with fail
    go_ret2
    rw [HE.out, HL.out]
    exact ⟨_, rfl, OwnI.nil _ _, fun _ => rfl, HV.out, Fr.refl _ _⟩
  have hBI : ¬ (12 : Int) < (b.size : Int) := by omega
  by_cases h1 : op < 1
  · have HE : Hid (findE op a b = 7) := by unfold Hid findE; rw [if_neg (by omega), if_pos (.inl h1)]
    have HL : Hid (findL f op a b = []) := by unfold Hid findL; rw [HE.out, if_neg (by omega)]
    clear hA hB h
    go_enter Tryz.func36, Tryz.ntmps36
    go_wp2_with fail
    go_ret2
    rw [HE.out, HL.out]
    exact ⟨_, rfl, OwnI.nil _ _, fun _ => rfl, HV.out, Fr.refl _ _⟩
  by_cases h3 : 3 < op
  · have HE : Hid (findE op a b = 7) := by unfold Hid findE; rw [if_neg (by omega), if_pos (.inr h3)]
    have HL : Hid (findL f op a b = []) := by unfold Hid findL; rw [HE.out, if_neg (by omega)]
    clear hA hB h
    go_enter Tryz.func36, Tryz.ntmps36
    go_wp2_with fail
    go_ret2
    rw [HE.out, HL.out]
    exact ⟨_, rfl, OwnI.nil _ _, fun _ => rfl, HV.out, Fr.refl _ _⟩
  have HE : Hid (findE op a b = 0) := by unfold Hid findE; rw [if_neg (by omega), if_neg (by omega)]
  have HL : Hid (findL f op a b = nine.filter (findD f op a b)) := by unfold Hid findL; rw [HE.out, if_pos rfl]
  have HDA : Hid (∀ i, decide (i ∈ docsOf f a) = hwD f a i) := fun i => hwD_docs HO.out (by omega) i
  have HDB : Hid (∀ i, decide (i ∈ docsOf f b) = hwD f b i) := fun i => hwD_docs HO.out (by omega) i
  have hopc : op = 1 ∨ op = 2 ∨ op = 3 := by omega
  have HOP := hid hopc
  obtain ⟨GY, h⟩ := h
  have H := hid h
  have c0 := h.v0.c
  have HD1 := hid (ydocs_any h.y (fun i hi => (h.gy i hi).2) a)
  clear h hA hB hopc
  go_enter Tryz.func36, Tryz.ntmps36
  go_upto_region 6 with (first
    | (go_at_call 67; refine HD1.out.mono ?_; rintro e w1 ⟨v1, rfl, o1, _, y1, f1⟩)
    | go_in)
  have H1 := hid (H.out.asks f1 y1)
  have O1 := hid o1
  have F1 := hid (H.out.up f1)
  clear o1 y1 f1 HD1 c0
  have c0 := H1.out.v0.c
  have HD2 := hid (ydocs_any H1.out.y (fun i hi => (H1.out.gy i hi).2) b)
  have HZ1 := hid F1.out.size
  go_upto_region 7 with (first
    | (go_at_call 67; refine HD2.out.mono ?_; rintro e w2 ⟨v2, rfl, o2, _, y2, f2⟩)
    | go_in)
  have H2 := hid (H1.out.asks f2 y2)
  have O2 := hid (o2.mono HZ1.out)
  have O1 := hid (O1.out.fr (H1.out.up f2) (fun k hk c => by have := (O1.out.lt hk).1; have := HGB.out k c; omega))
  have F2 := hid (F1.out.trans (H1.out.up f2))
  clear o2 y2 f2 HD2 c0 H1 F1
  have HZ2 := hid F2.out.size
  have hl1 := docsOf_le f a
  have hl2 := docsOf_le f b
  obtain ⟨L1, hL1⟩ : ∃ L, L = docsOf f a := ⟨_, rfl⟩
  obtain ⟨L2, hL2⟩ : ∃ L, L = docsOf f b := ⟨_, rfl⟩
  rw [← hL1] at O1 HDA hl1
  rw [← hL2] at O2 HDB hl2
  clear hL1 hL2
  go_wp2_with fail
  go_loopw [12, 13] (fun v x wr => ∃ n : Nat, n ≤ 9 ∧ x = .int .i64 ((n : Int) + 1) ∧ OwnI wr w2.heap.size v (upto (findD f op a b) n) ∧ (upto (findD f op a b) n = [] → v = .slice none 0 0) ∧ Fr (fun _ => False) w2 wr) (fun _ x _ => 10 - (intOf x).toNat)
  case atStart => exact ⟨0, by omega, rfl, OwnI.nil _ _, fun _ => rfl, Fr.refl _ _⟩
  case round =>
    obtain ⟨n, hn, rfl, ow, hnl, fr⟩ := hrel
    have OW := hid ow
    have NL := hid hnl
    have FR := hid fr
    have hn0 : (0 : Int) ≤ (n : Int) := by omega
    clear ow hnl fr
    generalize u12 = vo at *
    by_cases hlt : n < 9
    · have hltI : (n : Int) + 1 ≤ 9 := by omega
      have HUP := hid (upto_succ (findD f op a b) hlt)
      have hul := upto_len (findD f op a b) n
      have I1 := hid (in_any (O1.out.fr FR.out (fun _ _ h => h)) (by omega) ((n : Int) + 1))
      have I2 := hid (in_any (O2.out.fr FR.out (fun _ _ h => h)) (by omega) ((n : Int) + 1))
      rw [HDA.out] at I1
      rw [HDB.out] at I2
      obtain ⟨x, hx⟩ : ∃ x : Int, x = (n : Int) + 1 := ⟨_, rfl⟩
      have HFD : Hid (findD f op a b x = if op = 1 then hwD f a x && hwD f b x else if op = 2 then hwD f a x || hwD f b x else hwD f a x && !hwD f b x) := rfl
      rw [← hx] at HUP I1 I2 hltI ⊢
      have HX := hid hx
      have hx9 : x ≤ 9 := by omega
      have hx0 : 0 ≤ x := by omega
      clear hx
      obtain ⟨ba, hba⟩ : ∃ y, y = hwD f a x := ⟨_, rfl⟩
      obtain ⟨bb, hbb⟩ : ∃ y, y = hwD f b x := ⟨_, rfl⟩
      rw [← hba, ← hbb] at HFD
      rw [← hba] at I1
      rw [← hbb] at I2
      clear hba hbb
      obtain ⟨tk, htk⟩ : ∃ y, y = findD f op a b x := ⟨_, rfl⟩
      rw [← htk] at HUP HFD
      clear htk
      have hsz := FR.out.size
      go_upto_region 12 with (first
        | (go_at_call 68; refine I1.out.mono ?_; rintro e w3 ⟨rfl, hw3⟩; obtain rfl := hw3.symm)
        | go_in)
      go_upto_region 13 with (first
        | (go_at_call 68; refine I2.out.mono ?_; rintro e w3 ⟨rfl, hw3⟩; obtain rfl := hw3.symm)
        | go_in)
      clear I1 I2
      rcases HOP.out with hop | hop | hop
      · have g2 : (op == 2) = false := by simp [hop]
        have g3 : (op == 3) = false := by simp [hop]
        cases ba
        · cases bb
          · have htk : tk = false := by rw [HFD.out]; simp [hop]
            subst htk
            clear hop HFD
            simp only [Bool.false_eq_true, if_false, List.append_nil] at HUP
            go_wp2_with fail
            exact ⟨⟨n + 1, by omega, by rw [HX.out]; go_num, by rw [HUP.out]; exact OW.out, by rw [HUP.out]; exact NL.out, FR.out⟩, by have := HX.out; simp [intOf]; omega⟩
          · have htk : tk = false := by rw [HFD.out]; simp [hop]
            subst htk
            clear hop HFD
            simp only [Bool.false_eq_true, if_false, List.append_nil] at HUP
            go_wp2_with fail
            exact ⟨⟨n + 1, by omega, by rw [HX.out]; go_num, by rw [HUP.out]; exact OW.out, by rw [HUP.out]; exact NL.out, FR.out⟩, by have := HX.out; simp [intOf]; omega⟩
        · cases bb
          · have htk : tk = false := by rw [HFD.out]; simp [hop]
            subst htk
            clear hop HFD
            simp only [Bool.false_eq_true, if_false, List.append_nil] at HUP
            go_wp2_with fail
            exact ⟨⟨n + 1, by omega, by rw [HX.out]; go_num, by rw [HUP.out]; exact OW.out, by rw [HUP.out]; exact NL.out, FR.out⟩, by have := HX.out; simp [intOf]; omega⟩
          · have htk : tk = true := by rw [HFD.out]; simp [hop]
            subst htk
            clear hop HFD
            simp only [if_true] at HUP
            go_wp2_with (first
              | (at_builtin; refine wp_appI rfl rfl (v := vo) rfl (OW.out.fr ((Fr.refl (fun _ => False) _).alloc _) (fun _ _ h => h)) rfl (y := x) (At.new wr #[.int .i64 x] _ rfl).c (by omega) (by simp; omega) ?_; intro tg tc w7 ow7 f7 hg7 hl7; go_frame)
              | go_in)
            exact ⟨⟨n + 1, by omega, by rw [HX.out]; go_num, by rw [HUP.out]; exact ow7, fun e => absurd e (by rw [HUP.out]; simp), (FR.out.alloc _).then f7 (fun i hi c => by have := (OW.out.lt c).1; omega)⟩, by have := HX.out; simp [intOf]; omega⟩
      · have g2 : (op == 2) = true := by simp [hop]
        have g3 : (op == 3) = false := by simp [hop]
        cases ba
        · cases bb
          · have htk : tk = false := by rw [HFD.out]; simp [hop]
            subst htk
            clear hop HFD
            simp only [Bool.false_eq_true, if_false, List.append_nil] at HUP
            go_wp2_with fail
            exact ⟨⟨n + 1, by omega, by rw [HX.out]; go_num, by rw [HUP.out]; exact OW.out, by rw [HUP.out]; exact NL.out, FR.out⟩, by have := HX.out; simp [intOf]; omega⟩
          · have htk : tk = true := by rw [HFD.out]; simp [hop]
            subst htk
            clear hop HFD
            simp only [if_true] at HUP
            go_wp2_with (first
              | (at_builtin; refine wp_appI rfl rfl (v := vo) rfl (OW.out.fr ((Fr.refl (fun _ => False) _).alloc _) (fun _ _ h => h)) rfl (y := x) (At.new wr #[.int .i64 x] _ rfl).c (by omega) (by simp; omega) ?_; intro tg tc w7 ow7 f7 hg7 hl7; go_frame)
              | go_in)
            exact ⟨⟨n + 1, by omega, by rw [HX.out]; go_num, by rw [HUP.out]; exact ow7, fun e => absurd e (by rw [HUP.out]; simp), (FR.out.alloc _).then f7 (fun i hi c => by have := (OW.out.lt c).1; omega)⟩, by have := HX.out; simp [intOf]; omega⟩
        · cases bb
          · have htk : tk = true := by rw [HFD.out]; simp [hop]
            subst htk
            clear hop HFD
            simp only [if_true] at HUP
            go_wp2_with (first
              | (at_builtin; refine wp_appI rfl rfl (v := vo) rfl (OW.out.fr ((Fr.refl (fun _ => False) _).alloc _) (fun _ _ h => h)) rfl (y := x) (At.new wr #[.int .i64 x] _ rfl).c (by omega) (by simp; omega) ?_; intro tg tc w7 ow7 f7 hg7 hl7; go_frame)
              | go_in)
            exact ⟨⟨n + 1, by omega, by rw [HX.out]; go_num, by rw [HUP.out]; exact ow7, fun e => absurd e (by rw [HUP.out]; simp), (FR.out.alloc _).then f7 (fun i hi c => by have := (OW.out.lt c).1; omega)⟩, by have := HX.out; simp [intOf]; omega⟩
          · have htk : tk = true := by rw [HFD.out]; simp [hop]
            subst htk
            clear hop HFD
            simp only [if_true] at HUP
            go_wp2_with (first
              | (at_builtin; refine wp_appI rfl rfl (v := vo) rfl (OW.out.fr ((Fr.refl (fun _ => False) _).alloc _) (fun _ _ h => h)) rfl (y := x) (At.new wr #[.int .i64 x] _ rfl).c (by omega) (by simp; omega) ?_; intro tg tc w7 ow7 f7 hg7 hl7; go_frame)
              | go_in)
            exact ⟨⟨n + 1, by omega, by rw [HX.out]; go_num, by rw [HUP.out]; exact ow7, fun e => absurd e (by rw [HUP.out]; simp), (FR.out.alloc _).then f7 (fun i hi c => by have := (OW.out.lt c).1; omega)⟩, by have := HX.out; simp [intOf]; omega⟩
      · have g2 : (op == 2) = false := by simp [hop]
        have g3 : (op == 3) = true := by simp [hop]
        cases ba
        · cases bb
          · have htk : tk = false := by rw [HFD.out]; simp [hop]
            subst htk
            clear hop HFD
            simp only [Bool.false_eq_true, if_false, List.append_nil] at HUP
            go_wp2_with fail
            exact ⟨⟨n + 1, by omega, by rw [HX.out]; go_num, by rw [HUP.out]; exact OW.out, by rw [HUP.out]; exact NL.out, FR.out⟩, by have := HX.out; simp [intOf]; omega⟩
          · have htk : tk = false := by rw [HFD.out]; simp [hop]
            subst htk
            clear hop HFD
            simp only [Bool.false_eq_true, if_false, List.append_nil] at HUP
            go_wp2_with fail
            exact ⟨⟨n + 1, by omega, by rw [HX.out]; go_num, by rw [HUP.out]; exact OW.out, by rw [HUP.out]; exact NL.out, FR.out⟩, by have := HX.out; simp [intOf]; omega⟩
        · cases bb
          · have htk : tk = true := by rw [HFD.out]; simp [hop]
            subst htk
            clear hop HFD
            simp only [if_true] at HUP
            go_wp2_with (first
              | (at_builtin; refine wp_appI rfl rfl (v := vo) rfl (OW.out.fr ((Fr.refl (fun _ => False) _).alloc _) (fun _ _ h => h)) rfl (y := x) (At.new wr #[.int .i64 x] _ rfl).c (by omega) (by simp; omega) ?_; intro tg tc w7 ow7 f7 hg7 hl7; go_frame)
              | go_in)
            exact ⟨⟨n + 1, by omega, by rw [HX.out]; go_num, by rw [HUP.out]; exact ow7, fun e => absurd e (by rw [HUP.out]; simp), (FR.out.alloc _).then f7 (fun i hi c => by have := (OW.out.lt c).1; omega)⟩, by have := HX.out; simp [intOf]; omega⟩
          · have htk : tk = false := by rw [HFD.out]; simp [hop]
            subst htk
            clear hop HFD
            simp only [Bool.false_eq_true, if_false, List.append_nil] at HUP
            go_wp2_with fail
            exact ⟨⟨n + 1, by omega, by rw [HX.out]; go_num, by rw [HUP.out]; exact OW.out, by rw [HUP.out]; exact NL.out, FR.out⟩, by have := HX.out; simp [intOf]; omega⟩
    · have hltI : ¬ (n : Int) + 1 ≤ 9 := by omega
      have hne : n = 9 := by omega
      subst hne
      rw [upto_all, ← HL.out] at OW NL
      go_wp2_with fail
      go_ret2
      rw [HE.out]
      exact ⟨_, rfl, OW.out.mono HZ2.out, NL.out, ⟨_, H2.out.frw FR.out (fun _ _ h => h)⟩, F2.out.trans (FR.out.mono (fun _ _ h => h.elim))⟩

theorem vgroups_any {w : World} {G : Nat → Prop} {bV : Nat} {f : DocF} {r : Int → Nat} (h : VR bY bM w G bV f r) (hG : ∀ i, G i → i < w.heap.size) (x : ByteArray) :
    Calls Tryz.prog 37 #[.pointer (some ⟨bV, 0, none⟩), .string x] w fun e w' => ∃ v, e = .returned (.tuple #[v, .int .i64 (grpsE x)]) ∧ OwnC w' w.heap.size v (grpsL f x) ∧ (grpsL f x = [] → v = .slice none 0 0) ∧ VR bY bM w' G bV f r ∧ Fr G w w' := by
  have HV := hid h
  have HGB := hid hG
  clear hG
  by_cases hL : 12 < x.size
  · have HE : Hid (grpsE x = 1 ∧ grpsL f x = []) := ⟨by unfold grpsE; rw [if_pos hL], by unfold grpsL; rw [if_pos hL]⟩
    have hI : (12 : Int) < (x.size : Int) := by omega
    clear hL h
    go_enter Tryz.func37, Tryz.ntmps37
    go_wp2_with fail
    go_ret2
    rw [HE.out.1, HE.out.2]
    exact ⟨_, rfl, OwnC.nil _ _, fun _ => rfl, HV.out, Fr.refl _ _⟩
  have HE : Hid (grpsE x = 0 ∧ grpsL f x = grpK f x 3) := ⟨by unfold grpsE; rw [if_neg hL], by unfold grpsL; rw [if_neg hL]⟩
  have hI : ¬ (12 : Int) < (x.size : Int) := by omega
  have HTL : Hid (∀ g, tal f g x = tlK f (g, x)) := fun g => by unfold tal; rw [if_neg hL]
  obtain ⟨GY, h⟩ := h
  have H := hid h
  clear h hL
  go_enter Tryz.func37, Tryz.ntmps37
  go_wp2_with fail
  go_loopw [6, 7] (fun v b wr => ∃ j : Nat, j ≤ 3 ∧ b = .int .i64 j ∧ OwnC wr w.heap.size v (grpK f x j) ∧ (grpK f x j = [] → v = .slice none 0 0) ∧ VC wr G bV f r bY bM GY ∧ Fr G w wr) (fun _ b _ => 3 - (intOf b).toNat)
  case atStart => exact ⟨0, by omega, rfl, OwnC.nil _ _, fun _ => rfl, H.out, Fr.refl _ _⟩
  case round =>
    clear H
    obtain ⟨j, hj, rfl, owc, hnl, hv, fr⟩ := hrel
    have OC := hid owc
    have NL := hid hnl
    have HC := hid hv
    have FR := hid fr
    have hj0 : (0 : Int) ≤ (j : Int) := by omega
    clear owc hnl hv fr
    generalize u6 = vo at *
    by_cases hj3 : j < 3
    · have hj3I : (j : Int) ≤ 2 := by omega
      have HGK := hid (grpK_succ f x j)
      have hgl := grpK_len f x j
      have c0 := HC.out.v0.c
      have HT := ytally_any HC.out.y (fun i hi => (HC.out.gy i hi).2) (j : Int) x
      rw [HTL.out] at HT
      have HT := hid HT
      have hcc : ∀ k, vo.ownBlock = some k → ¬ G k := fun k hk c => by have := (OC.out.lt hk).1; have := HGB.out k c; omega
      obtain ⟨z, hz⟩ : ∃ z : Nat, z = tlK f ((j : Int), x) := ⟨_, rfl⟩
      rw [← hz] at HT HGK
      clear hz
      go_upto_region 8 with (first
        | (go_at_call 69; refine HT.out.mono ?_; rintro e w3 ⟨rfl, y3, f3⟩)
        | go_in)
      have C3 := hid (HC.out.asks f3 y3)
      have G3 := hid (HC.out.up f3)
      have OC3 := hid (OC.out.fr G3.out hcc)
      have F3 := hid (FR.out.trans G3.out)
      have hs3 := F3.out.size
      clear y3 f3 HT c0 OC
      by_cases h0 : z = 0
      · have HGK2 : Hid (grpK f x (j + 1) = grpK f x j) := by rw [HGK.out, if_pos h0]; simp [Hid]
        subst h0
        go_wp2_with fail
        exact ⟨⟨j + 1, by omega, by go_num, by rw [HGK2.out]; exact OC3.out, by rw [HGK2.out]; exact NL.out, C3.out, F3.out⟩, by simp [intOf]; omega⟩
      · have HGK2 : Hid (grpK f x (j + 1) = grpK f x j ++ [((j : Int), (z : Int))]) := by have := HGK.out; rw [if_neg h0] at this; exact this
        obtain ⟨m, rfl⟩ : ∃ m, z = m + 1 := ⟨z - 1, by omega⟩
        have hpz : (0 : Int) < ((m + 1 : Nat) : Int) := by omega
        clear h0
        go_wp2_with (first
          | (at_builtin; refine wp_appC rfl rfl (v := vo) rfl (OC3.out.fr ((Fr.refl (fun _ => False) _).alloc _) (fun _ _ h => h)) rfl (y := ((j : Int), ((m + 1 : Nat) : Int))) (At.new w3 #[.int .i64 (j : Int), .int .i64 ((m + 1 : Nat) : Int)] _ rfl).c (At.new w3 #[.int .i64 (j : Int), .int .i64 ((m + 1 : Nat) : Int)] _ rfl).c (by omega) (by simp; omega) ?_; intro tg tc w7 ow7 f7 hg7 hl7; go_frame)
          | go_in)
        refine ⟨⟨j + 1, by omega, by go_num, by rw [HGK2.out]; exact ow7, fun e => absurd e (by rw [HGK2.out]; simp), (C3.out.frw ((Fr.refl (fun _ => False) _).alloc _) (fun _ _ h => h)).frw f7 (fun i hi c => hcc i c hi), (F3.out.alloc _).then f7 (fun i hi c => by have := (OC3.out.lt c).1; omega)⟩, by simp [intOf]; omega⟩
    · have hj3I : ¬ (j : Int) ≤ 2 := by omega
      have hje : j = 3 := by omega
      subst hje
      go_wp2_with fail
      go_ret2
      rw [HE.out.1, HE.out.2]
      exact ⟨_, rfl, OC.out, NL.out, ⟨_, HC.out⟩, FR.out⟩

end Go.Proofs.Qxb6500450aGreat
