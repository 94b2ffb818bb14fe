/- The model's Words. -/
import Derived.Test.Qxb6500450aGreatPAsk
namespace Go.Proofs.Qxb6500450aGreat
open Go Go.RowKit
set_option maxRecDepth 100000
set_option maxHeartbeats 1600000
set_option linter.unusedSimpArgs false
set_option linter.unusedVariables false
variable {bM : Nat}

/-- The words of the documents l, each laid in. -/
def wm (f : DocF) (l : List Int) : List ByteArray := l.foldl (fun out i => (wordsT (txt f i)).foldl into out) []
theorem wm_snoc (f : DocF) (l : List Int) (i : Int) : wm f (l ++ [i]) = (wordsT (txt f i)).foldl into (wm f l) := by
  unfold wm; rw [List.foldl_append]; rfl
theorem wm_asc (f : DocF) : ∀ l : List Int, (wm f l).Pairwise ltS := by
  intro l
  unfold wm
  have : ∀ (l : List Int) (o : List ByteArray), o.Pairwise ltS → (l.foldl (fun out i => (wordsT (txt f i)).foldl into out) o).Pairwise ltS := by
    intro l
    induction l with
    | nil => intro o h; exact h
    | cons i l ih => intro o h; exact ih _ (foldI_asc _ _ h)
  exact this l [] .nil
theorem wm_mem (f : DocF) (x : ByteArray) (l : List Int) : x ∈ wm f l ↔ x ∈ l.flatMap fun i => runs (txt f i) := by
  unfold wm
  have : ∀ (l : List Int) (o : List ByteArray), x ∈ l.foldl (fun out i => (wordsT (txt f i)).foldl into out) o ↔ x ∈ o ∨ x ∈ l.flatMap fun i => runs (txt f i) := by
    intro l
    induction l with
    | nil => intro o; simp
    | cons i l ih =>
      intro o
      rw [List.foldl_cons, ih, foldI_mem, wordsT_mem, List.flatMap_cons, List.mem_append]
      constructor
      · rintro ((h | h) | h)
        · exact .inl h
        · exact .inr (.inl h)
        · exact .inr (.inr h)
      · rintro (h | h | h)
        · exact .inl (.inl h)
        · exact .inl (.inr h)
        · exact .inr h
  rw [this]
  simp
theorem wm_words (f : DocF) : wm f (ids f) = wordsOf f :=
  ascS_ext (wm_asc f _) (wordsOf_asc f) (fun x => by rw [wm_mem]; unfold wordsOf; rw [foldI_mem]; unfold bag; simp)
theorem wm_len {f : DocF} (ok : OkF f) (l : List Int) : (wm f l).length ≤ 13 * l.length := by
  unfold wm
  have : ∀ (l : List Int) (o : List ByteArray), (l.foldl (fun out i => (wordsT (txt f i)).foldl into out) o).length ≤ o.length + 13 * l.length := by
    intro l
    induction l with
    | nil => intro o; simp
    | cons i l ih =>
      intro o
      have h1 := ih ((wordsT (txt f i)).foldl into o)
      have h2 := foldI_len (wordsT (txt f i)) o
      have h3 := wordsT_len (txt f i)
      have h4 := txt_size ok i
      rw [List.foldl_cons, List.length_cons]
      omega
  have := this l []
  simpa using this

theorem ywords_any {w : World} {G : Nat → Prop} {bY : Nat} {f : DocF} {r : Int → Nat} (h : YR bM w G bY f r) (hG : ∀ i, G i → i < w.heap.size) :
    Calls Tryz.prog 70 #[.pointer (some ⟨bY, 0, none⟩)] w fun e w' => ∃ v, e = .returned v ∧ OwnS w' w.heap.size v (wordsOf f) ∧ (wordsOf f = [] → v = .slice none 0 0) ∧ YR bM w' G bY f r ∧ Fr G w w' := by
  obtain ⟨GS, h⟩ := h
  have OK := hid h.mr.ok
  obtain ⟨y, h4⟩ := h.y1
  have c1 := h4.c
  have x1 := h4.f
  have HA := hid (h.asked (wrap64 (y + 1)))
  have FA := hid ((Fr.refl G w).setCell (p := ⟨bY, 1, none⟩) (fun _ => h.gy) (.int .i64 (wrap64 (y + 1))))
  have hz : (w.setCell ⟨bY, 1, none⟩ (.int .i64 (wrap64 (y + 1)))).heap.size = w.heap.size := by simp
  have HZ := hid hz
  have HG := hid hG
  clear h h4 hz hG
  go_enter Tryz.func70, Tryz.ntmps70
  go_upto_region 2 with fail
  generalize w.setCell ⟨bY, 1, none⟩ (.int .i64 (wrap64 (y + 1))) = w0 at *
  clear c1 x1
  have c0 := HA.out.y0.c
  have HI := hid (mids_any HA.out.mr (fun i hi => (HA.out.gs i hi).2))
  go_wp2_with fail
  refine HI.out.mono ?_
  rintro e w1 ⟨iv1, rfl, ow1, _, hm1, f1⟩
  have OI := hid ow1
  have H1 := hid (HA.out.asks f1 hm1)
  have F1 := hid (FA.out.trans (f1.mono (S' := G) (fun i _ e => e ▸ HA.out.gM)))
  clear ow1 hm1 f1 HI c0
  have HDS : Hid (∀ i ∈ ids f, ∃ g t, txt f i = t ∧ t.size ≤ 12 ∧ getP f i = ⟨i, g, t, 0⟩) := by
    intro i hi
    have hs := (ids_mem OK.out i).1 hi
    obtain e | ⟨⟨g, t⟩, e⟩ := opt (f i)
    · rw [e] at hs; cases hs
    · have hr := OK.out.rng i _ e
      have hg : goodB i = true := good_iff.2 ⟨hr.1, hr.2.1⟩
      exact ⟨g, t, by simp [txt, e], hr.2.2.2.2, by simp [getP, hg, e]⟩
  have hil : (ids f).length ≤ 9 := by have := ids_len f; have := nDocs_le f; omega
  have HWM := hid (wm_words f)
  obtain ⟨l, hl⟩ : ∃ l, l = ids f := ⟨_, rfl⟩
  rw [← hl] at OI HDS hil HWM
  clear hl
  obtain ⟨ia, ic, hiv⟩ : ∃ a c, iv1 = .slice a l.length c := by
    rcases OI.out.empty with ⟨e1, e2⟩ | ⟨g, cap, e1, _⟩
    · exact ⟨none, 0, by rw [e1, e2]; rfl⟩
    · exact ⟨_, cap, e1⟩
  subst hiv
  have hlb : (l.length : Int) ≤ 9 := by omega
  have HZ1 := hid F1.out.size
  have HZ0 := HZ.out
  go_wp2_with fail
  go_loopw [3, 5] (fun v b wr => ∃ a : Nat, a ≤ l.length ∧ b = .int .i64 a ∧ OwnS wr w1.heap.size v (wm f (l.take a)) ∧ (wm f (l.take a) = [] → v = .slice none 0 0) ∧ YC wr G bY f r bM GS ∧ Fr G w1 wr) (fun _ b _ => l.length - (intOf b).toNat)
  case atStart => exact ⟨0, by omega, rfl, OwnS.nil _ _, fun _ => rfl, H1.out, Fr.refl _ _⟩
  case round =>
    clear H1
    obtain ⟨a, ha, rfl, ow, hnl, hy, fr⟩ := hrel
    have OW := hid ow
    have NL := hid hnl
    have HY := hid hy
    have FR := hid fr
    have ha0 : (0 : Int) ≤ (a : Int) := by omega
    clear ow hnl hy fr
    generalize u3 = v at *
    by_cases hlt : a < l.length
    · have hltI : (a : Int) < (l.length : Int) := by omega
      rcases OI.out.empty with ⟨_, hn⟩ | ⟨gi, ci, hv, hgb, hgl⟩
      · rw [hn] at hlt; simp at hlt
      cases hv
      have nGi : ¬ G gi := fun c => by have := HG.out gi c; omega
      have CI := hid ((OI.out.cell rfl hlt).fr FR.out nGi)
      have hmemi : l.getD a 0 ∈ l := by simp [List.getD, hlt]
      obtain ⟨g', t, htx, ht, hgp⟩ := HDS.out _ hmemi
      have HTK : Hid (wm f (l.take (a + 1)) = (wordsT t).foldl into (wm f (l.take a))) := by
        unfold Hid
        have : l.getD a 0 = l[a] := by simp [List.getD, hlt]
        rw [List.take_succ_eq_append_getElem hlt, wm_snoc, ← htx, this]
      have hwl : (wm f (l.take a)).length ≤ 117 := by
        have h1 := wm_len OK.out (l.take a)
        have h2 : (l.take a).length ≤ l.length := List.length_take_le' _ _
        omega
      clear htx
      generalize l.getD a 0 = id at *
      have HGT : Hid (∀ W, Fr (fun _ => False) wr W → Calls Tryz.prog 93 #[.pointer (some ⟨bM, 0, none⟩), .int .i64 id] W fun e w' => e = .returned (.tuple #[.agg #[.int .i64 id, .int .i64 g', .string t], .int .i64 0]) ∧ MR w' GS bM f r ∧ Fr (fun i => i = bM) W w') := by
        intro W hW
        have := mget_any (HY.out.mr.frw hW (fun _ _ h => h)) (fun i hi => Nat.lt_of_lt_of_le (HY.out.gs i hi).2 hW.size) id
        rw [hgp] at this
        exact this
      have c0 := HY.out.y0.c
      have ci' := CI.out.c
      have lx := HY.out.y0.lt
      have lg := CI.out.lt
      have lM := HY.out.mr.lt
      clear hgp hmemi
      go_upto_region 7 with fail
      go_cut [6] (fun p wx => ∃ pd, p = .pointer (some ⟨pd, 0, none⟩) ∧ wr.heap.size ≤ pd ∧ At wx pd 2 (.string t) ∧ MR wx GS bM f r ∧ Fr (fun i => i = bM) wr wx)
      case first =>
        go_region_with (go_at_call 93; refine (HGT.out _ (by first | exact (Fr.refl _ _).drew | exact ((Fr.refl _ _).alloc _).drew)).mono ?_; rintro e x7 ⟨rfl, m7, g7⟩; have M7 := hid m7; first | (have p0 := (At.new wr #[.int .i64 0, .int .i64 0, .string ⟨#[]⟩] 112 (o := 0) rfl).drew.fr g7 (fun h => by omega); have p1 := (At.new wr #[.int .i64 0, .int .i64 0, .string ⟨#[]⟩] 112 (o := 1) rfl).drew.fr g7 (fun h => by omega); have p2 := (At.new wr #[.int .i64 0, .int .i64 0, .string ⟨#[]⟩] 112 (o := 2) rfl).drew.fr g7 (fun h => by omega); have pc0 := p0.c; have pc1 := p1.c; have pc2 := p2.c; have pf0 := p0.f; have pf1 := p1.f; have pf2 := p2.f; have G7 := hid ((((Fr.refl (fun i => i = bM) wr).alloc (.cells #[.int .i64 0, .int .i64 0, .string ⟨#[]⟩] 112)).drew).trans g7)) | (have G7 := hid (((Fr.refl (fun i => i = bM) wr).drew).trans g7)))
        all_goals go_wp2_with fail
        all_goals go_meet
        all_goals first
          | exact ⟨_, rfl, G7.out.size, At.new x7 _ _ rfl, M7.out.frw ((Fr.refl (fun _ => False) _).alloc _) (fun _ _ h => h), G7.out.alloc _⟩
          | exact ⟨_, rfl, Nat.le_refl _, ((p2.other (by omega) _).other (by omega) _).same _, M7.out.frw (set3_fr _ _ _ _ _) (fun i hi e => by have e' : i = wr.heap.size := e; have := (HY.out.gs i hi).2; omega), G7.out.then (set3_fr _ _ _ _ _) (fun i hi e => by have e' : i = wr.heap.size := e; omega)⟩
      case rest =>
        obtain ⟨pd, rfl, hpd, d2, md, fd⟩ := hcut
        have D2 := hid d2
        have FD := hid (fd.mono (S' := G) (fun i _ e => e ▸ HY.out.gM))
        have YD := hid (HY.out.asks fd md)
        have nv : ∀ k, v.ownBlock = some k → ¬ G k := fun k hk c => by have := (OW.out.lt hk).1; have := HG.out k c; have := HZ1.out; omega
        have OWD := hid (OW.out.fr FD.out nv)
        have FRD := hid (FR.out.trans FD.out)
        clear d2 md fd hpd c0 ci' HGT lx lg lM
        have y2 := D2.out.c
        have ht8 : t.size ≤ 800 := by omega
        go_wp2_with fail
        refine (words_any ht8 _).mono ?_
        rintro e w8 ⟨sv, rfl, os, f8⟩
        have OS := hid os
        have YD8 := hid (YD.out.frw f8 (fun _ _ h => h))
        have OW8 := hid (OWD.out.fr f8 (fun _ _ h => h))
        have FR8 := hid (FRD.out.trans (f8.mono (S' := G) (fun _ _ h => h.elim)))
        have HWL := hid (wordsT_len t)
        have HZC := hid FRD.out.size
        clear os f8 y2 YD OWD FRD FD D2
        obtain ⟨ws, hws⟩ : ∃ ws, ws = wordsT t := ⟨_, rfl⟩
        rw [← hws] at OS HTK HWL
        clear hws
        obtain ⟨sa, sc, hsv⟩ := OS.out.form
        subst hsv
        have hwsl : (ws.length : Int) ≤ 13 := by have := HWL.out; omega
        have hwsn : ws.length ≤ 13 := by omega
        obtain ⟨O, hO⟩ : ∃ O, O = wm f (l.take a) := ⟨_, rfl⟩
        rw [← hO] at OW8 HTK hwl NL
        clear hO
        have HZ8 := hid FR8.out.size
        go_wp2_with fail
        go_loopw [3, 9] (fun v b wi => ∃ k : Nat, k ≤ ws.length ∧ b = .int .i64 k ∧ OwnS wi w1.heap.size v ((ws.take k).foldl into O) ∧ ((ws.take k).foldl into O = [] → v = .slice none 0 0) ∧ Fr (fun _ => False) w8 wi) (fun _ b _ => ws.length - (intOf b).toNat)
        case atStart => exact ⟨0, by omega, rfl, OW8.out, NL.out, Fr.refl _ _⟩
        case round =>
          clear OW8
          obtain ⟨k, hk, rfl, owi, hnli, fi⟩ := hrel
          have OWI := hid owi
          have NLI := hid hnli
          have FI := hid fi
          have hk0 : (0 : Int) ≤ (k : Int) := by omega
          clear owi hnli fi
          generalize u3 = vi at *
          by_cases hkl : k < ws.length
          · have hklI : (k : Int) < (ws.length : Int) := by omega
            rcases OS.out.empty with ⟨_, hn⟩ | ⟨gs, cs, hv, hgsb, hgsl⟩
            · rw [hn] at hkl; simp at hkl
            cases hv
            have cs' := ((OS.out.cell rfl hkl).fr FI.out (fun h => h)).c
            have HTW : Hid ((ws.take (k + 1)).foldl into O = into ((ws.take k).foldl into O) (ws.getD k ⟨#[]⟩)) := by
              unfold Hid
              rw [take_succ_getD ws k hkl, List.foldl_append]
              rfl
            have hfl : ((ws.take k).foldl into O).length ≤ 900 := by
              have h1 := foldI_len (ws.take k) O
              have h2 : (ws.take k).length ≤ ws.length := List.length_take_le' _ _
              omega
            generalize ws.getD k ⟨#[]⟩ = x at *
            have HIN := hid (into_any OWI.out (Nat.le_trans HZ8.out FI.out.size) hfl x)
            go_wp2_with fail
            refine HIN.out.mono ?_
            rintro e w9 ⟨v9, rfl, o9, f9⟩
            have O9 := hid o9
            have F9 := hid (FI.out.trans f9)
            clear o9 f9 HIN cs'
            go_wp2_with fail
            exact ⟨⟨k + 1, by omega, by go_num, by rw [HTW.out]; exact O9.out, fun e0 => absurd e0 (by rw [HTW.out]; exact into_ne _ _), F9.out⟩, by simp [intOf]; omega⟩
          · have hklI : ¬ (k : Int) < (ws.length : Int) := by omega
            have HTW : Hid (ws.take k = ws) := List.take_of_length_le (by omega)
            rw [HTW.out] at OWI NLI
            go_wp2_with fail
            exact ⟨⟨a + 1, by omega, by go_num, by rw [HTK.out]; exact OWI.out, by rw [HTK.out]; exact NLI.out, YD8.out.frw FI.out (fun _ _ h => h), FR8.out.trans (FI.out.mono (S' := G) (fun _ _ h => h.elim))⟩, by simp [intOf]; omega⟩
    · have hgeI : ¬ (a : Int) < (l.length : Int) := by omega
      have HTL : Hid (l.take a = l) := List.take_of_length_le (by omega)
      rw [HTL.out, HWM.out] at OW NL
      go_wp2_with fail
      go_ret
      exact ⟨_, rfl, OW.out.base HZ1.out, NL.out, ⟨_, HY.out⟩, F1.out.trans FR.out⟩

end Go.Proofs.Qxb6500450aGreat
