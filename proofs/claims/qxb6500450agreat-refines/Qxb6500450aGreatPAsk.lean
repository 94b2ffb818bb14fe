/- The model's questions: pick, Docs, Freq, Tally. -/
import Derived.Test.Qxb6500450aGreatPText
import Derived.Test.Qxb6500450aGreatPRep
namespace Go.Proofs.Qxb6500450aGreat
open Go Go.RowKit
set_option maxRecDepth 100000
set_option maxHeartbeats 1600000
set_option linter.unusedSimpArgs false
set_option linter.unusedVariables false
variable {bM : Nat}

/-- Does pick take document i? -/
def takes (f : DocF) (g : Int) (x : ByteArray) (i : Int) : Bool := (decide (g < 0) || has f g i) && hwD f x i
def pickL (f : DocF) (g : Int) (x : ByteArray) : List Int := if 12 < x.size then [] else (ids f).filter (takes f g x)
theorem pick_docs (f : DocF) (x : ByteArray) : pickL f (-1) x = docsOf f x := by
  unfold pickL docsOf
  split
  · rfl
  · unfold ids
    rw [List.filter_filter]
    apply List.filter_congr
    intro i _
    obtain e | ⟨⟨g, t⟩, e⟩ := opt (f i)
    · simp [takes, hwD_none e]
    · simp [takes, e]
theorem pick_tal {f : DocF} {g : Int} (hg : 0 ≤ g) (x : ByteArray) : (pickL f g x).length = tal f g x := by
  unfold pickL tal
  split
  · rfl
  · unfold ids tlK
    rw [List.filter_filter, ← List.countP_eq_length_filter]
    apply List.countP_congr
    intro i _
    obtain e | ⟨⟨g', t⟩, e⟩ := opt (f i)
    · simp [takes, hwD_none e]
    · have : ¬ g < 0 := by omega
      simp [takes, e, this]
theorem tal_neg {f : DocF} (ok : OkF f) {g : Int} (hg : g < 0) (x : ByteArray) : tal f g x = 0 := by
  unfold tal
  split
  · rfl
  · unfold tlK
    rw [List.countP_eq_zero]
    intro i _
    obtain e | ⟨⟨g', t⟩, e⟩ := opt (f i)
    · simp [hwD_none e]
    · have := (ok.rng i _ e).2.2.1
      simp only at this
      rw [has_of e]
      have : ¬ g = g' := by omega
      simp [this]
theorem pickL_le (f : DocF) (g : Int) (x : ByteArray) : (pickL f g x).length ≤ 9 := by
  unfold pickL
  split
  · simp
  · have h1 := List.length_filter_le (takes f g x) (ids f)
    have h2 := ids_len f
    have h3 := nDocs_le f
    omega

theorem ypick_any {w : World} {G GS : Nat → Prop} {bY : Nat} {f : DocF} {r : Int → Nat} (h : YC w G bY f r bM GS) (hG : ∀ i, G i → i < w.heap.size) (g : Int) (x : ByteArray) :
    Calls Tryz.prog 91 #[.pointer (some ⟨bY, 0, none⟩), .int .i64 g, .string x] w fun e w' => ∃ v, e = .returned v ∧ OwnI w' w.heap.size v (pickL f g x) ∧ (pickL f g x = [] → v = .slice none 0 0) ∧ YC w' G bY f r bM GS ∧ Fr G w w' := by
  have H := hid h
  have HG := hid hG
  by_cases hL : 12 < x.size
  · have HE : Hid (pickL f g x = []) := by unfold Hid pickL; rw [if_pos hL]
    have hI : (12 : Int) < (x.size : Int) := by omega
    clear h
    go_enter Tryz.func91, Tryz.ntmps91
    go_wp2_with fail
    go_ret
    rw [HE.out]
    exact ⟨_, rfl, OwnI.nil _ _, fun _ => rfl, H.out, Fr.refl _ _⟩
  have HE : Hid (pickL f g x = (ids f).filter (takes f g x)) := by unfold Hid pickL; rw [if_neg hL]
  have hI : ¬ (12 : Int) < (x.size : Int) := by omega
  have OK := hid h.mr.ok
  have c0 := h.y0.c
  have HI := hid (mids_any h.mr (fun i hi => (h.gs i hi).2))
  clear h hL
  go_enter Tryz.func91, Tryz.ntmps91
  go_wp2_with fail
  refine HI.out.mono ?_
  rintro e w1 ⟨iv1, rfl, ow1, _, hm1, f1⟩
  have OI := hid ow1
  have H1 := hid (H.out.asks f1 hm1)
  have F1 := hid (f1.mono (S' := G) (fun i _ e => e ▸ H.out.gM))
  clear ow1 hm1 f1 HI c0
  have HDS : Hid (∀ i ∈ ids f, ∃ g t, f i = some (g, t) ∧ t.size ≤ 12 ∧ getP f i = ⟨i, g, t, 0⟩) := by
    intro i hi
    have hs := (ids_mem OK.out i).1 hi
    obtain e | ⟨⟨g, t⟩, e⟩ := opt (f i)
    · rw [e] at hs; cases hs
    · have hr := OK.out.rng i _ e
      have hg : goodB i = true := good_iff.2 ⟨hr.1, hr.2.1⟩
      exact ⟨g, t, e, hr.2.2.2.2, by simp [getP, hg, e]⟩
  have hil : (ids f).length ≤ 9 := by have := ids_len f; have := nDocs_le f; omega
  obtain ⟨l, hl⟩ : ∃ l, l = ids f := ⟨_, rfl⟩
  rw [← hl] at OI HDS hil HE
  clear hl
  obtain ⟨ia, ic, hiv⟩ : ∃ a c, iv1 = .slice a l.length c := by
    rcases OI.out.empty with ⟨e1, e2⟩ | ⟨g, cap, e1, _⟩
    · exact ⟨none, 0, by rw [e1, e2]; rfl⟩
    · exact ⟨_, cap, e1⟩
  subst hiv
  have hlb : (l.length : Int) ≤ 9 := by omega
  have HZ1 := hid F1.out.size
  go_wp2_with fail
  go_loopw [7, 9] (fun v b wr => ∃ a : Nat, a ≤ l.length ∧ b = .int .i64 a ∧ OwnI wr w1.heap.size v ((l.take a).filter (takes f g x)) ∧ ((l.take a).filter (takes f g x) = [] → v = .slice none 0 0) ∧ YC wr G bY f r bM GS ∧ Fr G w1 wr) (fun _ b _ => l.length - (intOf b).toNat)
  case atStart => exact ⟨0, by omega, rfl, OwnI.nil _ _, fun _ => rfl, H1.out, Fr.refl _ _⟩
  case round =>
    clear H1
    obtain ⟨a, ha, rfl, ow, hnl, hy, fr⟩ := hrel
    have OW := hid ow
    have NL := hid hnl
    have HY := hid hy
    have FR := hid fr
    have ha0 : (0 : Int) ≤ (a : Int) := by omega
    clear ow hnl hy fr
    generalize u7 = v at *
    by_cases hlt : a < l.length
    · have hltI : (a : Int) < (l.length : Int) := by omega
      rcases OI.out.empty with ⟨_, hn⟩ | ⟨gi, ci, hv, hgb, hgl⟩
      · rw [hn] at hlt; simp at hlt
      cases hv
      have nGi : ¬ G gi := fun c => by have := HG.out gi c; omega
      have CI := hid ((OI.out.cell rfl hlt).fr FR.out nGi)
      have hmemi : l.getD a 0 ∈ l := by simp [List.getD, hlt]
      obtain ⟨g', t, hs, ht, hgp⟩ := HDS.out _ hmemi
      have HTK : Hid ((l.take (a + 1)).filter (takes f g x) = (l.take a).filter (takes f g x) ++ (if takes f g x (l.getD a 0) then [l.getD a 0] else [])) := by
        unfold Hid
        rw [List.take_succ_eq_append_getElem hlt, List.filter_append]
        have : l.getD a 0 = l[a] := by simp [List.getD, hlt]
        rw [this]
        by_cases c : takes f g x l[a] = true
        · simp [c]
        · simp [c]
      have HTT : Hid (takes f g x (l.getD a 0) = ((decide (g < 0) || decide (g = g')) && decide (x ∈ runs t))) := by
        unfold Hid takes
        rw [has_of hs, hwD_some hs]
      generalize l.getD a 0 = id at *
      have HGT : Hid (∀ W, Fr (fun _ => False) wr W → Calls Tryz.prog 93 #[.pointer (some ⟨bM, 0, none⟩), .int .i64 id] W fun e w' => e = .returned (.tuple #[.agg #[.int .i64 id, .int .i64 g', .string t], .int .i64 0]) ∧ MR w' GS bM f r ∧ Fr (fun i => i = bM) W w') := by
        intro W hW
        have := mget_any (HY.out.mr.frw hW (fun _ _ h => h)) (fun i hi => Nat.lt_of_lt_of_le (HY.out.gs i hi).2 hW.size) id
        rw [hgp] at this
        exact this
      have c0 := HY.out.y0.c
      have ci' := CI.out.c
      have lx := HY.out.y0.lt
      have lg := CI.out.lt
      have lM := HY.out.mr.lt
      clear hs hgp hmemi
      go_upto_region 8 with fail
      go_cut [10] (fun p wx => ∃ pd, p = .pointer (some ⟨pd, 0, none⟩) ∧ wr.heap.size ≤ pd ∧ At wx pd 1 (.int .i64 g') ∧ At wx pd 2 (.string t) ∧ MR wx GS bM f r ∧ Fr (fun i => i = bM) wr wx)
      case first =>
        go_region_with (go_at_call 93; refine (HGT.out _ (by first | exact (Fr.refl _ _).drew | exact ((Fr.refl _ _).alloc _).drew)).mono ?_; rintro e x7 ⟨rfl, m7, g7⟩; have M7 := hid m7; first | (have p0 := (At.new wr #[.int .i64 0, .int .i64 0, .string ⟨#[]⟩] 112 (o := 0) rfl).drew.fr g7 (fun h => by omega); have p1 := (At.new wr #[.int .i64 0, .int .i64 0, .string ⟨#[]⟩] 112 (o := 1) rfl).drew.fr g7 (fun h => by omega); have p2 := (At.new wr #[.int .i64 0, .int .i64 0, .string ⟨#[]⟩] 112 (o := 2) rfl).drew.fr g7 (fun h => by omega); have pc0 := p0.c; have pc1 := p1.c; have pc2 := p2.c; have pf0 := p0.f; have pf1 := p1.f; have pf2 := p2.f; have G7 := hid ((((Fr.refl (fun i => i = bM) wr).alloc (.cells #[.int .i64 0, .int .i64 0, .string ⟨#[]⟩] 112)).drew).trans g7)) | (have G7 := hid (((Fr.refl (fun i => i = bM) wr).drew).trans g7)))
        all_goals go_wp2_with fail
        all_goals go_meet
        all_goals first
          | exact ⟨_, rfl, G7.out.size, At.new x7 _ _ rfl, At.new x7 _ _ rfl, M7.out.frw ((Fr.refl (fun _ => False) _).alloc _) (fun _ _ h => h), G7.out.alloc _⟩
          | exact ⟨_, rfl, Nat.le_refl _, ((p1.other (by omega) _).same _).other (by omega) _, ((p2.other (by omega) _).other (by omega) _).same _, M7.out.frw (set3_fr _ _ _ _ _) (fun i hi e => by have e' : i = wr.heap.size := e; have := (HY.out.gs i hi).2; omega), G7.out.then (set3_fr _ _ _ _ _) (fun i hi e => by have e' : i = wr.heap.size := e; omega)⟩
      case rest =>
        obtain ⟨pd, rfl, hpd, d1, d2, md, fd⟩ := hcut
        have D1 := hid d1
        have D2 := hid d2
        have FD := hid (fd.mono (S' := G) (fun i _ e => e ▸ HY.out.gM))
        have YD := hid (HY.out.asks fd md)
        have HPD := hid hpd
        have nv : ∀ k, v.ownBlock = some k → ¬ G k := fun k hk c => by have := (OW.out.lt hk).1; have := HG.out k c; have := HZ1.out; omega
        have OWD := hid (OW.out.fr FD.out nv)
        have CID := hid (CI.out.fr FD.out nGi)
        have FRD := hid (FR.out.trans FD.out)
        have hw1 := FRD.out.size
        clear d1 d2 md fd hpd c0 ci' HGT lx lg lM
        have y1 := D1.out.c
        have y2 := D2.out.c
        have ht8 : t.size ≤ 800 := by omega
        by_cases hgn : g < 0
        · have hgI : ¬ (0 : Int) ≤ g := by omega
          have HTT2 : Hid (takes f g x id = decide (x ∈ runs t)) := by unfold Hid; rw [HTT.out]; simp [hgn]
          clear HTT
          go_wp2_with fail
          refine (holds_any ht8 x _).mono ?_
          rintro e w8 ⟨rfl, f8⟩
          have YD8 := hid (YD.out.frw f8 (fun _ _ h => h))
          have OW8 := hid (OWD.out.fr f8 (fun _ _ h => h))
          have CI8 := hid (CID.out.fr f8 (fun h => h))
          have FR8 := hid (FRD.out.trans (f8.mono (S' := G) (fun _ _ h => h.elim)))
          have hs8 := FR8.out.size
          clear f8 y1 y2 YD OWD CID FRD FD hw1
          rcases hx : decide (x ∈ runs t) with _ | _
          · rw [hx] at HTT2
            rw [HTT2.out] at HTK
            simp only [Bool.false_eq_true, if_false, List.append_nil] at HTK
            clear hx
            go_wp2_with fail
            exact ⟨⟨a + 1, by omega, by go_num, by rw [HTK.out]; exact OW8.out, by rw [HTK.out]; exact NL.out, YD8.out, FR8.out⟩, by simp [intOf]; omega⟩
          · rw [hx] at HTT2
            rw [HTT2.out] at HTK
            simp only [if_true] at HTK
            have ci' := CI8.out.c
            have hlen : ((l.take a).filter (takes f g x)).length ≤ 9 := by
              have h1 := List.length_filter_le (takes f g x) (l.take a)
              have h2 : (l.take a).length ≤ l.length := List.length_take_le' _ _
              omega
            clear hx
            go_wp2_with (first
              | (at_builtin; refine wp_appI rfl rfl (v := v) rfl (OW8.out.fr ((Fr.refl (fun _ => False) _).alloc _) (fun _ _ h => h)) rfl (y := id) (At.new w8 #[.int .i64 id] _ rfl).c (by omega) (by simp; omega) ?_; intro tg tc w9 ow9 f9 hg9 hl9; go_frame)
              | go_in)
            have nv9 : ∀ k, G k → ¬ v.ownBlock = some k := fun k hk c => nv k c hk
            refine ⟨⟨a + 1, by omega, by go_num, by rw [HTK.out]; have := ow9; exact this, fun e0 => absurd e0 (by rw [HTK.out]; simp), (YD8.out.frw ((Fr.refl (fun _ => False) _).alloc _) (fun _ _ h => h)).frw f9 nv9, (FR8.out.alloc _).then f9 (fun i hi c => by have := (OW8.out.lt c).1; omega)⟩, by simp [intOf]; omega⟩
        · have hgI : (0 : Int) ≤ g := by omega
          by_cases hgg : g = g'
          · have hnb : (g' != g) = false := by simp [hgg]
            have HTT2 : Hid (takes f g x id = decide (x ∈ runs t)) := by unfold Hid; rw [HTT.out]; simp [hgg]
            clear HTT hgg
            go_wp2_with fail
            refine (holds_any ht8 x _).mono ?_
            rintro e w8 ⟨rfl, f8⟩
            have YD8 := hid (YD.out.frw f8 (fun _ _ h => h))
            have OW8 := hid (OWD.out.fr f8 (fun _ _ h => h))
            have CI8 := hid (CID.out.fr f8 (fun h => h))
            have FR8 := hid (FRD.out.trans (f8.mono (S' := G) (fun _ _ h => h.elim)))
            have hs8 := FR8.out.size
            clear f8 y1 y2 YD OWD CID FRD FD hw1
            rcases hx : decide (x ∈ runs t) with _ | _
            · rw [hx] at HTT2
              rw [HTT2.out] at HTK
              simp only [Bool.false_eq_true, if_false, List.append_nil] at HTK
              clear hx
              go_wp2_with fail
              exact ⟨⟨a + 1, by omega, by go_num, by rw [HTK.out]; exact OW8.out, by rw [HTK.out]; exact NL.out, YD8.out, FR8.out⟩, by simp [intOf]; omega⟩
            · rw [hx] at HTT2
              rw [HTT2.out] at HTK
              simp only [if_true] at HTK
              have ci' := CI8.out.c
              have hlen : ((l.take a).filter (takes f g x)).length ≤ 9 := by
                have h1 := List.length_filter_le (takes f g x) (l.take a)
                have h2 : (l.take a).length ≤ l.length := List.length_take_le' _ _
                omega
              clear hx
              go_wp2_with (first
                | (at_builtin; refine wp_appI rfl rfl (v := v) rfl (OW8.out.fr ((Fr.refl (fun _ => False) _).alloc _) (fun _ _ h => h)) rfl (y := id) (At.new w8 #[.int .i64 id] _ rfl).c (by omega) (by simp; omega) ?_; intro tg tc w9 ow9 f9 hg9 hl9; go_frame)
                | go_in)
              have nv9 : ∀ k, G k → ¬ v.ownBlock = some k := fun k hk c => nv k c hk
              refine ⟨⟨a + 1, by omega, by go_num, by rw [HTK.out]; have := ow9; exact this, fun e0 => absurd e0 (by rw [HTK.out]; simp), (YD8.out.frw ((Fr.refl (fun _ => False) _).alloc _) (fun _ _ h => h)).frw f9 nv9, (FR8.out.alloc _).then f9 (fun i hi c => by have := (OW8.out.lt c).1; omega)⟩, by simp [intOf]; omega⟩
          · have hnb : (g' != g) = true := by simp; exact fun c => hgg c.symm
            have HTT2 : Hid (takes f g x id = false) := by unfold Hid; rw [HTT.out]; simp [hgn, hgg]
            rw [HTT2.out] at HTK
            simp only [Bool.false_eq_true, if_false, List.append_nil] at HTK
            clear hgg HTT HTT2
            go_wp2_with fail
            exact ⟨⟨a + 1, by omega, by go_num, by rw [HTK.out]; exact OWD.out, by rw [HTK.out]; exact NL.out, YD.out, FRD.out⟩, by simp [intOf]; omega⟩
    · have hgeI : ¬ (a : Int) < (l.length : Int) := by omega
      have HTL : Hid (l.take a = l) := List.take_of_length_le (by omega)
      rw [HTL.out] at OW NL
      rw [← HE.out] at OW NL
      go_wp2_with fail
      go_ret
      exact ⟨_, rfl, OW.out.mono HZ1.out, NL.out, HY.out, F1.out.trans FR.out⟩

section
variable {w : World} {G : Nat → Prop} {bY : Nat} {f : DocF} {r : Int → Nat}
theorem ydocs_any (h : YR bM w G bY f r) (hG : ∀ i, G i → i < w.heap.size) (x : ByteArray) :
    Calls Tryz.prog 67 #[.pointer (some ⟨bY, 0, none⟩), .string x] w fun e w' => ∃ v, e = .returned v ∧ OwnI w' w.heap.size v (docsOf f x) ∧ (docsOf f x = [] → v = .slice none 0 0) ∧ YR bM w' G bY f r ∧ Fr G w w' := by
  obtain ⟨GS, h⟩ := h
  obtain ⟨y, h4⟩ := h.y1
  have c1 := h4.c
  have x1 := h4.f
  have HA := hid (h.asked (wrap64 (y + 1)))
  have FA := hid ((Fr.refl G w).setCell (p := ⟨bY, 1, none⟩) (fun _ => h.gy) (.int .i64 (wrap64 (y + 1))))
  have hz : (w.setCell ⟨bY, 1, none⟩ (.int .i64 (wrap64 (y + 1)))).heap.size = w.heap.size := by simp
  have HZ := hid hz
  have HG := hid hG
  clear h h4 hz hG
  go_enter Tryz.func67, Tryz.ntmps67
  go_upto_region 2 with fail
  generalize w.setCell ⟨bY, 1, none⟩ (.int .i64 (wrap64 (y + 1))) = w1 at *
  clear c1 x1
  have HP := ypick_any HA.out (fun i hi => by have := HG.out i hi; have := HZ.out; omega) (-1) x
  rw [pick_docs, HZ.out] at HP
  go_wp2_with fail
  refine HP.mono ?_
  clear HP
  rintro e w2 ⟨v, rfl, ow, hnl, hy, hf⟩
  have OW := hid ow
  have NL := hid hnl
  have HY := hid hy
  have HF := hid (FA.out.trans hf)
  clear ow hnl hy hf
  go_wp2_with fail
  go_ret
  exact ⟨_, rfl, OW.out, NL.out, ⟨_, HY.out⟩, HF.out⟩

theorem yfreq_any (h : YR bM w G bY f r) (hG : ∀ i, G i → i < w.heap.size) (x : ByteArray) :
    Calls Tryz.prog 71 #[.pointer (some ⟨bY, 0, none⟩), .string x] w fun e w' => e = .returned (.int .i64 (frq f x : Int)) ∧ YR bM w' G bY f r ∧ Fr G w w' := by
  obtain ⟨GS, h⟩ := h
  obtain ⟨y, h4⟩ := h.y1
  have c1 := h4.c
  have x1 := h4.f
  have HA := hid (h.asked (wrap64 (y + 1)))
  have FA := hid ((Fr.refl G w).setCell (p := ⟨bY, 1, none⟩) (fun _ => h.gy) (.int .i64 (wrap64 (y + 1))))
  have hz : (w.setCell ⟨bY, 1, none⟩ (.int .i64 (wrap64 (y + 1)))).heap.size = w.heap.size := by simp
  have HZ := hid hz
  have HG := hid hG
  clear h h4 hz hG
  go_enter Tryz.func71, Tryz.ntmps71
  go_upto_region 2 with fail
  generalize w.setCell ⟨bY, 1, none⟩ (.int .i64 (wrap64 (y + 1))) = w1 at *
  clear c1 x1
  have HP := ypick_any HA.out (fun i hi => by have := HG.out i hi; have := HZ.out; omega) (-1) x
  rw [pick_docs, HZ.out] at HP
  go_wp2_with fail
  refine HP.mono ?_
  clear HP
  rintro e w2 ⟨v, rfl, ow, hnl, hy, hf⟩
  have HY := hid hy
  have HF := hid (FA.out.trans hf)
  have HLN := hid (docsOf_len f x)
  obtain ⟨va, vc, hv⟩ : ∃ a c, v = .slice a (docsOf f x).length c := by
    rcases ow.empty with ⟨e1, e2⟩ | ⟨g, cap, e1, _⟩
    · exact ⟨none, 0, by rw [e1, e2]; rfl⟩
    · exact ⟨_, cap, e1⟩
  subst hv
  clear ow hnl hy hf
  go_wp2_with fail
  go_ret
  exact ⟨by rw [← HLN.out]; rfl, ⟨_, HY.out⟩, HF.out⟩

theorem ytally_any (h : YR bM w G bY f r) (hG : ∀ i, G i → i < w.heap.size) (g : Int) (x : ByteArray) :
    Calls Tryz.prog 69 #[.pointer (some ⟨bY, 0, none⟩), .int .i64 g, .string x] w fun e w' => e = .returned (.int .i64 (tal f g x : Int)) ∧ YR bM w' G bY f r ∧ Fr G w w' := by
  obtain ⟨GS, h⟩ := h
  have OK := hid h.mr.ok
  obtain ⟨y, h4⟩ := h.y1
  have c1 := h4.c
  have x1 := h4.f
  have HA := hid (h.asked (wrap64 (y + 1)))
  have FA := hid ((Fr.refl G w).setCell (p := ⟨bY, 1, none⟩) (fun _ => h.gy) (.int .i64 (wrap64 (y + 1))))
  have hz : (w.setCell ⟨bY, 1, none⟩ (.int .i64 (wrap64 (y + 1)))).heap.size = w.heap.size := by simp
  have HZ := hid hz
  have HG := hid hG
  clear h h4 hz hG
  go_enter Tryz.func69, Tryz.ntmps69
  go_upto_region 2 with fail
  generalize w.setCell ⟨bY, 1, none⟩ (.int .i64 (wrap64 (y + 1))) = w1 at *
  clear c1 x1
  by_cases hg : g < 0
  · have HE := hid (tal_neg OK.out hg x)
    go_wp2_with fail
    go_ret
    rw [HE.out]
    exact ⟨rfl, ⟨_, HA.out⟩, FA.out⟩
  have HP := ypick_any HA.out (fun i hi => by have := HG.out i hi; have := HZ.out; omega) g x
  have HLN := hid (pick_tal (f := f) (g := g) (by omega) x)
  go_wp2_with fail
  refine HP.mono ?_
  clear HP
  rintro e w2 ⟨v, rfl, ow, hnl, hy, hf⟩
  have HY := hid hy
  have HF := hid (FA.out.trans hf)
  obtain ⟨va, vc, hv⟩ : ∃ a c, v = .slice a (pickL f g x).length c := by
    rcases ow.empty with ⟨e1, e2⟩ | ⟨g, cap, e1, _⟩
    · exact ⟨none, 0, by rw [e1, e2]; rfl⟩
    · exact ⟨_, cap, e1⟩
  subst hv
  clear ow hnl hy hf
  go_wp2_with fail
  go_ret
  exact ⟨by rw [← HLN.out]; rfl, ⟨_, HY.out⟩, HF.out⟩
end

end Go.Proofs.Qxb6500450aGreat
