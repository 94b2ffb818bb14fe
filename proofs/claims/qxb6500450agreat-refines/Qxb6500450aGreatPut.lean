/- Put. -/
import Derived.Test.Qxb6500450aGreatGet
namespace Go.Proofs.Qxb6500450aGreat
open Go Go.RowKit
set_option maxRecDepth 100000
set_option maxHeartbeats 1600000
set_option linter.unusedSimpArgs false
set_option linter.unusedVariables false

def putE (f : DocF) (id g : Int) (t : ByteArray) : Int :=
  if 12 < t.size then 1 else if goodB id = false then 2 else if g < 0 ∨ 2 < g then 3 else if textOK t = false then 4 else if f id = none ∧ nDocs f = 6 then 5 else 0
def putF (f : DocF) (id g : Int) (t : ByteArray) : DocF := if putE f id g t = 0 then putD f id g t else f
def putR (f : DocF) (r : Int → Nat) (id g : Int) (t : ByteArray) : Int → Nat := if putE f id g t = 0 then incC r id else r

theorem SC.wide {w : World} {F G : Nat → Prop} {bS : Nat} {f : DocF} {r : Int → Nat} {bd br bg n m q : Nat} {p : Int → Nat} (h : SC w F bS f r bd br bg p n m q) (hn : ∀ i, F i → G i) : SC w G bS f r bd br bg p n m q :=
  { h with pF := fun k hk => hn _ (h.pF k hk), fS := hn _ h.fS, fd := hn _ h.fd, fr := hn _ h.fr, fg := hn _ h.fg }

theorem SR.wide {w : World} {F G : Nat → Prop} {bS : Nat} {f : DocF} {r : Int → Nat} (h : SR w F bS f r) (hn : ∀ i, F i → G i) : SR w G bS f r := by
  obtain ⟨bd, br, bg, p, n, m, q, h⟩ := h
  exact ⟨bd, br, bg, p, n, m, q, h.wide hn⟩

theorem dm_put (p : Int → Nat) (f : DocF) (id g : Int) (t : ByteArray) (b : Nat) : updF (dm p f) id (some (.pointer (some ⟨b, 0, none⟩))) = dm (fun k => if k = id then b else p k) (putD f id g t) := by
  funext j
  unfold updF dm putD
  by_cases e : j = id
  · simp [e]
  · simp [e]

theorem dm_put_old {p : Int → Nat} {f : DocF} {id : Int} {d : Int × ByteArray} (h : f id = some d) (g : Int) (t : ByteArray) : dm p (putD f id g t) = dm p f := by
  funext j
  unfold dm putD
  by_cases e : j = id
  · subst e; simp [h]
  · simp [e]

theorem put_same {f : DocF} {id g : Int} {t : ByteArray} (h : f id = some (g, t)) : putD f id g t = f := by
  funext j
  unfold putD
  split
  · rename_i e; subst e; exact h.symm
  · rfl

theorem some_put {f : DocF} {id g : Int} {t : ByteArray} {k : Int} (h : (putD f id g t k).isSome = true) (hk : k ≠ id) : (f k).isSome = true := by
  unfold putD at h
  rw [if_neg hk] at h
  exact h

theorem DocAt.set {w : World} {b : Nat} {k k' : Int} {d : Int × ByteArray} (h : DocAt w b k' d) (g : Int) (t : ByteArray) :
    DocAt (((w.setCell ⟨b, 0, none⟩ (.int .i64 k)).setCell ⟨b, 1, none⟩ (.int .i64 g)).setCell ⟨b, 2, none⟩ (.string t)) b k (g, t) :=
  ⟨((h.c0.same _).other (by omega) _).other (by omega) _, ((h.c1.other (by omega) _).same _).other (by omega) _, ((h.c2.other (by omega) _).other (by omega) _).same _⟩

theorem set3_fr (w : World) (b : Nat) (x y z : Value) : Fr (fun i => i = b) w (((w.setCell ⟨b, 0, none⟩ x).setCell ⟨b, 1, none⟩ y).setCell ⟨b, 2, none⟩ z) :=
  (((Fr.refl (fun i => i = b) w).setCell (p := ⟨b, 0, none⟩) (fun _ => rfl) x).setCell (p := ⟨b, 1, none⟩) (fun _ => rfl) y).setCell (p := ⟨b, 2, none⟩) (fun _ => rfl) z

theorem str_ne {a b : ByteArray} (h : a ≠ b) : (a.toList == b.toList) = false := by
  refine beq_eq_false_iff_ne.2 (fun e => h ?_)
  rw [ByteArray.toList_eq, ByteArray.toList_eq] at e
  exact WideShapes.bytes_inj e

theorem put_any {w : World} {F : Nat → Prop} {bS : Nat} {f : DocF} {r : Int → Nat} (h : SR w F bS f r) (id g : Int) (t : ByteArray) (hr : ∀ k, r k < 4611686018427387904) :
    Calls Tryz.prog 77 #[.pointer (some ⟨bS, 0, none⟩), .int .i64 id, .int .i64 g, .string t] w fun e w' => e = .returned (.int .i64 (putE f id g t)) ∧ SR w' (fun i => F i ∨ w.heap.size ≤ i) bS (putF f id g t) (putR f r id g t) ∧ Fr F w w' := by
  have H0 := hid (h.wide (G := fun i => F i ∨ w.heap.size ≤ i) (fun i hi => .inl hi))
  have HR := hid hr
  clear hr
  by_cases ht : 12 < t.size
  · have HE : Hid (putE f id g t = 1) := by simp [Hid, putE, ht]
    have ht' : (12 : Int) < (t.size : Int) := by omega
    clear ht
    go_enter Tryz.func77, Tryz.ntmps77
    go_wp2_with fail
    go_ret
    have e1 : putF f id g t = f := by unfold putF; rw [HE.out]; rfl
    have e2 : putR f r id g t = r := by unfold putR; rw [HE.out]; rfl
    rw [HE.out, e1, e2]
    exact ⟨rfl, H0.out, Fr.refl _ _⟩
  have htI : ¬ (12 : Int) < (t.size : Int) := by omega
  rcases hg : goodB id with _ | _
  · have HE : Hid (putE f id g t = 2) := by simp [Hid, putE, ht, hg]
    clear ht
    go_enter Tryz.func77, Tryz.ntmps77
    go_wp2_with (first
      | (go_at_call 100; refine (good_any id _).mono ?_; rintro e w1 ⟨rfl, hw1⟩; obtain rfl := hw1.symm; rw [hg])
      | go_in)
    go_ret
    have e1 : putF f id g t = f := by unfold putF; rw [HE.out]; rfl
    have e2 : putR f r id g t = r := by unfold putR; rw [HE.out]; rfl
    rw [HE.out, e1, e2]
    exact ⟨rfl, H0.out, Fr.refl _ _⟩
  have hgi : 1 ≤ id ∧ id ≤ 9 := by simpa [goodB] using hg
  by_cases hgl : g < 0
  · have HE : Hid (putE f id g t = 3) := by simp [Hid, putE, ht, hg, hgl]
    clear ht
    clear hgi
    go_enter Tryz.func77, Tryz.ntmps77
    go_wp2_with (first
      | (go_at_call 100; refine (good_any id _).mono ?_; rintro e w1 ⟨rfl, hw1⟩; obtain rfl := hw1.symm; rw [hg])
      | go_in)
    go_ret
    have e1 : putF f id g t = f := by unfold putF; rw [HE.out]; rfl
    have e2 : putR f r id g t = r := by unfold putR; rw [HE.out]; rfl
    rw [HE.out, e1, e2]
    exact ⟨rfl, H0.out, Fr.refl _ _⟩
  by_cases hgh : 2 < g
  · have HE : Hid (putE f id g t = 3) := by simp [Hid, putE, ht, hg, hgh]
    clear ht
    clear hgi
    go_enter Tryz.func77, Tryz.ntmps77
    go_wp2_with (first
      | (go_at_call 100; refine (good_any id _).mono ?_; rintro e w1 ⟨rfl, hw1⟩; obtain rfl := hw1.symm; rw [hg])
      | go_in)
    go_ret
    have e1 : putF f id g t = f := by unfold putF; rw [HE.out]; rfl
    have e2 : putR f r id g t = r := by unfold putR; rw [HE.out]; rfl
    rw [HE.out, e1, e2]
    exact ⟨rfl, H0.out, Fr.refl _ _⟩
  have hts : t.size ≤ 1000000 := by omega
  have HT := hid ht
  clear ht
  rcases hok : textOK t with _ | _
  · have HE : Hid (putE f id g t = 4) := by have ht := HT.out; simp [Hid, putE, ht, hg, hgl, hgh, hok]
    clear hgi
    go_enter Tryz.func77, Tryz.ntmps77
    go_wp2_with (first
      | (go_at_call 100; refine (good_any id _).mono ?_; rintro e w1 ⟨rfl, hw1⟩; obtain rfl := hw1.symm; rw [hg])
      | (go_at_call 101; refine (text_any t _ hts).mono ?_; rintro e w1 ⟨rfl, hw1⟩; obtain rfl := hw1.symm; rw [hok])
      | go_in)
    go_ret
    have e1 : putF f id g t = f := by unfold putF; rw [HE.out]; rfl
    have e2 : putR f r id g t = r := by unfold putR; rw [HE.out]; rfl
    rw [HE.out, e1, e2]
    exact ⟨rfl, H0.out, Fr.refl _ _⟩
  have fa : ∀ c, Fr (fun _ => False) w (w.alloc c) := fun c => (Fr.refl _ _).alloc _
  obtain ⟨bd, br, bg, p, n, m, q, h⟩ := h
  have e := h.md.count h.ok
  subst e
  have H := hid h
  have s0 := h.s0.c
  have hb : bS < w.heap.size := h.s0.lt
  have hdS := h.md.ne_at h.s0
  have hgS := h.mg.ne_at h.s0
  have hrS := h.mr.ne_at h.s0
  have n1 := hid h.ne1
  have n2 := hid h.ne2
  have n3 := hid h.ne3
  have HL : Hid (∀ k, (f k).isSome = true → p k < w.heap.size) := fun k hk => by
    obtain e | ⟨d, e⟩ := opt (f k)
    · rw [e] at hk; cases hk
    · exact (h.docs k d e).c0.lt
  clear h
  obtain hf | ⟨d, hf⟩ := opt (f id)
  · have HD : Hid (dm p f id = none) := by simp [Hid, dm, hf]
    by_cases hn6 : nDocs f = 6
    · have HE : Hid (putE f id g t = 5) := by have ht := HT.out; simp [Hid, putE, ht, hg, hgl, hgh, hok, hf, hn6]
      have hn6' : ((nDocs f : Int) == 6) = true := by simp; omega
      clear hf
      clear hgi
      clear hn6
      go_enter Tryz.func77, Tryz.ntmps77
      go_wp2_with (first
        | (go_at_call 100; refine (good_any id _).mono ?_; rintro e w1 ⟨rfl, hw1⟩; obtain rfl := hw1.symm; rw [hg])
        | (go_at_call 101; refine (text_any t _ hts).mono ?_; rintro e w1 ⟨rfl, hw1⟩; obtain rfl := hw1.symm; rw [hok])
        | (at_lookup; refine wp_look2 rfl rfl kInt uDocs zPtr (H.out.md.fr (fa _) (fun h => h)) rfl (k := id) rfl (v := .pointer none) (s := false) (by rw [HD.out]; rfl) (by rw [HD.out]; rfl) ?_)
        | (at_len; refine wp_len rfl rfl uDocs (H.out.md.fr (fa _) (fun h => h)) rfl ?_)
        | go_in)
      go_ret
      have e1 : putF f id g t = f := by unfold putF; rw [HE.out]; rfl
      have e2 : putR f r id g t = r := by unfold putR; rw [HE.out]; rfl
      rw [HE.out, e1, e2]
      exact ⟨rfl, H0.out.frw (fa _) (fun _ _ h => h), (fa _).mono (fun _ _ h => h.elim)⟩
    · have HE : Hid (putE f id g t = 0) := by have ht := HT.out; simp [Hid, putE, ht, hg, hgl, hgh, hok, hn6]
      have hn6' : ((nDocs f : Int) == 6) = false := by simp; omega
      have HF := hid hf
      have HI := hid hgi
      have hc : (cnt f g : Int) < 10 := by have := cnt_le f g; have := nDocs_le f; omega
      have hc0 : (0 : Int) ≤ (cnt f g : Int) := by omega
      have hr0 : (0 : Int) ≤ (r id : Int) := by omega
      have hr1 : (r id : Int) < 4611686018427387904 := by have := HR.out id; omega
      have HGC := hid (cm_get (cnt f) g)
      have HGR := hid (cm_get r id)
      clear hf
      clear hgi
      have HN6 := hid hn6
      clear hn6
      generalize hcg : (cnt f g : Int) = cg at *
      generalize hrg : (r id : Int) = rg at *
      have HCG := hid hcg
      have HRG := hid hrg
      clear hcg hrg
      go_enter Tryz.func77, Tryz.ntmps77
      go_wp2_with (first
        | (go_at_call 100; refine (good_any id _).mono ?_; rintro e w1 ⟨rfl, hw1⟩; obtain rfl := hw1.symm; rw [hg])
        | (go_at_call 101; refine (text_any t _ hts).mono ?_; rintro e w1 ⟨rfl, hw1⟩; obtain rfl := hw1.symm; rw [hok])
        | (at_lookup; refine wp_look2 rfl rfl kInt uDocs zPtr (H.out.md.fr (fa _) (fun h => h)) rfl (k := id) rfl (v := .pointer none) (s := false) (by rw [HD.out]; rfl) (by rw [HD.out]; rfl) ?_)
        | (at_len; refine wp_len rfl rfl uDocs (H.out.md.fr (fa _) (fun h => h)) rfl ?_)
        | (at_mapUpdate; refine wp_upd rfl rfl kInt uDocs (H.out.md.fr (fa _) (fun h => h)) rfl (k := id) rfl (u := .pointer (some ⟨w.heap.size, 0, none⟩)) rfl ?_; intro w1 md1 f1 z1; have s2 := ((H.out.s2.fr (fa _) (fun h => h)).fr f1 (fun e => hdS e.symm)).c; have mg1 := (H.out.mg.fr (fa _) (fun h => h)).fr f1 (fun e => n2.out e.symm))
        | (at_lookup; refine wp_look1 rfl rfl kInt uInts zInt mg1 rfl (k := g) rfl HGC.out ?_)
        | (at_mapUpdate; refine wp_upd rfl rfl kInt uInts mg1 rfl (k := g) rfl (u := .int .i64 (cg + 1)) rfl ?_; intro w2 mg2 f2 z2; have s1 := (((H.out.s1.fr (fa _) (fun h => h)).fr f1 (fun e => hdS e.symm)).fr f2 (fun e => hgS e.symm)).c; have mr2 := ((H.out.mr.fr (fa _) (fun h => h)).fr f1 (fun e => n1.out e.symm)).fr f2 (fun e => n3.out e))
        | (at_lookup; refine wp_look1 rfl rfl kInt uInts zInt mr2 rfl (k := id) rfl HGR.out ?_)
        | (at_mapUpdate; refine wp_upd rfl rfl kInt uInts mr2 rfl (k := id) rfl (u := .int .i64 (rg + 1)) rfl ?_; intro w3 mr3 f3 z3)
        | go_in)
      go_ret
      have e1 : putF f id g t = putD f id g t := by unfold putF; rw [HE.out]; rfl
      have e2 : putR f r id g t = incC r id := by unfold putR; rw [HE.out]; rfl
      rw [HE.out, e1, e2]
      obtain ⟨i1, i2⟩ := HI.out
      have gS : ∀ {o v}, At w bS o v → At w3 bS o v := fun h => (((h.fr (fa _) (fun h => h)).fr f1 (fun e => hdS e.symm)).fr f2 (fun e => hgS e.symm)).fr f3 (fun e => hrS e.symm)
      rw [dm_put p f id g t] at md1
      rw [← HCG.out, cm_inc, ← cnt_put_new i1 i2 HF.out g t] at mg2
      rw [← HRG.out, cm_inc] at mr3
      have gd : ∀ {b k d}, DocAt w1 b k d → DocAt w3 b k d := fun {b k d} h => (h.fr f2 (fun e => mg1.ne_at h.c0 e.symm)).fr f3 (fun e => mr2.ne_at (h.c0.fr f2 (fun e => mg1.ne_at h.c0 e.symm)) e.symm)
      have hbd := H.out.md.lt
      refine ⟨rfl, ⟨bd, br, bg, fun k => if k = id then w.heap.size else p k, _, _, _, ⟨gS H.out.s0, gS H.out.s1, gS H.out.s2, (md1.fr f2 (fun e => n2.out e)).fr f3 (fun e => n1.out e), mr3, mg2.fr f3 (fun e => n3.out e.symm), n1.out, n2.out, n3.out, ?_, ?_, ?_, ?_, .inl H.out.fS, .inl H.out.fd, .inl H.out.fr, .inl H.out.fg, ?_, ?_, ?_⟩⟩, ?_⟩
      · intro k d hd
        by_cases ek : k = id
        · subst ek
          simp only [putD, if_true, Option.some.injEq] at hd
          subst hd
          simp only [if_true]
          refine gd (DocAt.fr ⟨At.new w _ _ rfl, At.new w _ _ rfl, At.new w _ _ rfl⟩ f1 (by omega))
        · simp only [if_neg ek]
          unfold putD at hd
          rw [if_neg ek] at hd
          have hd0 := H.out.docs k d hd
          exact gd ((hd0.fr (fa _) (fun h => h)).fr f1 (fun e => H.out.md.ne_at hd0.c0 e.symm))
      · intro j k hj hk e
        by_cases ej : j = id
        · by_cases ek : k = id
          · rw [ej, ek]
          · have := HL.out k (some_put hk ek)
            simp only [if_pos ej, if_neg ek] at e
            omega
        · by_cases ek : k = id
          · have := HL.out j (some_put hj ej)
            simp only [if_neg ej, if_pos ek] at e
            omega
          · simp only [if_neg ej, if_neg ek] at e
            exact H.out.inj j k (some_put hj ej) (some_put hk ek) e
      · intro k hk
        by_cases ek : k = id
        · simp only [if_pos ek]; omega
        · simp only [if_neg ek]; exact H.out.pne k (some_put hk ek)
      · intro k hk
        by_cases ek : k = id
        · simp only [if_pos ek]; exact .inr (Nat.le_refl _)
        · simp only [if_neg ek]; exact .inl (H.out.pF k (some_put hk ek))
      · exact H.out.ok.put i1 i2 (by omega) (by omega) (by have := HT.out; omega) (.inr (by have := H.out.ok.few; have := HN6.out; omega))
      · intro k hk
        unfold incC
        by_cases ek : k = id
        · rw [if_pos ek]; omega
        · rw [if_neg ek]; exact H.out.rlo k (some_put hk ek)
      · intro k hk
        unfold incC at hk
        by_cases ek : k = id
        · rw [ek]; exact ⟨i1, i2⟩
        · rw [if_neg ek] at hk; exact H.out.rrg k hk
      · exact (((fa _).mono (S' := F) (fun _ _ h => h.elim)).then (f1.mono (S' := F) (fun i _ e => e ▸ H.out.fd)) (fun _ _ h => h)).then ((f2.mono (S' := F) (fun i _ e => e ▸ H.out.fg)).then (f3.mono (S' := F) (fun i _ e => e ▸ H.out.fr)) (fun _ _ h => h)) (fun _ _ h => h)
  · have HE : Hid (putE f id g t = 0) := by have ht := HT.out; simp [Hid, putE, ht, hg, hgl, hgh, hok, hf]
    have HD : Hid (dm p f id = some (.pointer (some ⟨p id, 0, none⟩))) := by simp [Hid, dm, hf]
    have HP : Hid (DocAt w (p id) id d) := H.out.docs id d hf
    have c0 := HP.out.c0.c
    have c1 := HP.out.c1.c
    have c2 := HP.out.c2.c
    have hpl := HP.out.c0.lt
    have HF := hid hf
    have HI := hid hgi
    have hr0 : (0 : Int) ≤ (r id : Int) := by omega
    have hr1 : (r id : Int) < 4611686018427387904 := by have := HR.out id; omega
    have HGR := hid (cm_get r id)
    clear hgi
    obtain ⟨d1, d2⟩ := d
    simp only at c1 c2
    obtain ⟨pb, hpb⟩ : ∃ pb, pb = p id := ⟨_, rfl⟩
    rw [← hpb] at c0 c1 c2 HD HP hpl
    have HPB := hid hpb
    clear hpb
    by_cases hsame : d1 = g ∧ d2 = t
    · obtain ⟨rfl, rfl⟩ := hsame
      clear hf
      generalize hrg : (r id : Int) = rg at *
      have HRG := hid hrg
      clear hrg
      go_enter Tryz.func77, Tryz.ntmps77
      go_wp2_with (first
        | (go_at_call 100; refine (good_any id _).mono ?_; rintro e w1 ⟨rfl, hw1⟩; obtain rfl := hw1.symm; rw [hg])
        | (go_at_call 101; refine (text_any _ _ hts).mono ?_; rintro e w1 ⟨rfl, hw1⟩; obtain rfl := hw1.symm; rw [hok])
        | (at_lookup; refine wp_look2 rfl rfl kInt uDocs zPtr (H.out.md.fr (fa _) (fun h => h)) rfl (k := id) rfl (v := .pointer (some ⟨pb, 0, none⟩)) (s := true) (by rw [HD.out]; rfl) (by rw [HD.out]; rfl) ?_)
        | go_in)
      go_quiet (fail)
      have fq : ∀ c, Fr (fun _ => False) w ((w.alloc c).drewN nq) := fun c => ((Fr.refl _ _).alloc _).drewN _
      have s1 := (H.out.s1.fr (fq (.cells #[.int .i64 id, .int .i64 d1, .string d2] 112)) (fun h => h)).c
      go_wp2_with (first
        | (at_lookup; refine wp_look1 rfl rfl kInt uInts zInt (H.out.mr.fr (fq _) (fun h => h)) rfl (k := id) rfl HGR.out ?_)
        | (at_mapUpdate; refine wp_upd rfl rfl kInt uInts (H.out.mr.fr (fq _) (fun h => h)) rfl (k := id) rfl (u := .int .i64 (rg + 1)) rfl ?_; intro w3 mr3 f3 z3)
        | go_in)
      go_ret
      have e1 : putF f id d1 d2 = f := by unfold putF; rw [HE.out, put_same HF.out]; rfl
      have e2 : putR f r id d1 d2 = incC r id := by unfold putR; rw [HE.out]; rfl
      rw [HE.out, e1, e2]
      rw [← HRG.out, cm_inc] at mr3
      have f03 : Fr (fun i => i = br) w w3 := ((fq _).mono (S' := fun i => i = br) (fun _ _ h => h.elim)).then f3 (fun _ _ h => h)
      have gS : ∀ {o v}, At w bS o v → At w3 bS o v := fun h => h.fr f03 (fun e => hrS e.symm)
      refine ⟨rfl, ⟨bd, br, bg, p, _, _, _, ⟨gS H.out.s0, gS H.out.s1, gS H.out.s2, H.out.md.fr f03 (fun e => n1.out e), mr3, H.out.mg.fr f03 (fun e => n3.out e.symm), n1.out, n2.out, n3.out, fun k d hd => (H.out.docs k d hd).fr f03 (fun e => H.out.mr.ne_at (H.out.docs k d hd).c0 e.symm), H.out.inj, H.out.pne, fun k hk => .inl (H.out.pF k hk), .inl H.out.fS, .inl H.out.fd, .inl H.out.fr, .inl H.out.fg, H.out.ok, ?_, ?_⟩⟩, f03.mono (fun i _ e => e ▸ H.out.fr)⟩
      · intro k hk
        have := H.out.rlo k hk
        unfold incC
        split <;> omega
      · intro k hk
        unfold incC at hk
        by_cases ek : k = id
        · rw [ek]; exact HI.out
        · rw [if_neg ek] at hk; exact H.out.rrg k hk
    by_cases hd1 : d1 = g
    rotate_left
    · have hcmp : (d1 == g) = false := beq_eq_false_iff_ne.2 hd1
      clear hsame
      clear hd1
      have HC : Hid (1 ≤ cnt f d1 ∧ cnt f d1 < 4611686018427387904) := by
        have h1 := cnt_pos H.out.ok (t := d2) (g := d1) HF.out
        have h2 := cnt_le f d1
        have h3 := nDocs_le f
        exact ⟨h1, by omega⟩
      have HX : Hid (cnt (putD f id g t) = incC (decC (cnt f) d1) g) := cnt_put_old H.out.ok (t0 := d2) HF.out g t
      have HGC := hid (cm_get (decC (cnt f) d1) g)
      have hc : (decC (cnt f) d1 g : Int) < 10 := by have := cnt_le f g; have := nDocs_le f; unfold decC; split <;> omega
      have hc0 : (0 : Int) ≤ (decC (cnt f) d1 g : Int) := by omega
      generalize hcg : (decC (cnt f) d1 g : Int) = cg at *
      have HCG := hid hcg
      clear hcg
      generalize hrg : (r id : Int) = rg at *
      have HRG := hid hrg
      clear hrg
      clear hf
      have hpS : pb ≠ bS := by rw [HPB.out]; exact H.out.pne id (by rw [HF.out]; rfl)
      have hpg : pb ≠ bg := fun e => H.out.mg.ne_at HP.out.c0 e.symm
      have hpr : pb ≠ br := fun e => H.out.mr.ne_at HP.out.c0 e.symm
      have hpd : pb ≠ bd := fun e => H.out.md.ne_at HP.out.c0 e.symm
      go_enter Tryz.func77, Tryz.ntmps77
      go_wp2_with (first
        | (go_at_call 100; refine (good_any id _).mono ?_; rintro e w1 ⟨rfl, hw1⟩; obtain rfl := hw1.symm; rw [hg])
        | (go_at_call 101; refine (text_any _ _ hts).mono ?_; rintro e w1 ⟨rfl, hw1⟩; obtain rfl := hw1.symm; rw [hok])
        | (at_lookup; refine wp_look2 rfl rfl kInt uDocs zPtr (H.out.md.fr (fa _) (fun h => h)) rfl (k := id) rfl (v := .pointer (some ⟨pb, 0, none⟩)) (s := true) (by rw [HD.out]; rfl) (by rw [HD.out]; rfl) ?_)
        | go_in)
      go_quiet (fail)
      have fq : Fr (fun _ => False) w ((w.alloc (.cells #[.int .i64 id, .int .i64 g, .string t] 112)).drewN nq) := ((Fr.refl _ _).alloc _).drewN _
      have HN : Hid (DocAt ((w.alloc (.cells #[.int .i64 id, .int .i64 g, .string t] 112)).drewN nq) w.heap.size id (g, t)) := ⟨(At.new w _ _ rfl).drewN nq, (At.new w _ _ rfl).drewN nq, (At.new w _ _ rfl).drewN nq⟩
      have hzq : ((w.alloc (.cells #[.int .i64 id, .int .i64 g, .string t] 112)).drewN nq).heap.size = w.heap.size + 1 := by simp [World.drewN]
      generalize (w.alloc (.cells #[.int .i64 id, .int .i64 g, .string t] 112)).drewN nq = wq at *
      have c1 := ((HP.out.fr fq (fun h => h)).c1).c
      simp only at c1
      go_wp2_with (first
        | (go_at_call 102; refine (leave_any (H.out.s2.fr fq (fun h => h)) (H.out.mg.fr fq (fun h => h)) HC.out.1 HC.out.2).mono ?_; rintro e w1 ⟨rfl, ⟨q1, mg1⟩, f1, z1⟩; have s2 := ((H.out.s2.fr fq (fun h => h)).fr f1 (fun e => hgS e.symm)).c)
        | (at_lookup; refine wp_look1 rfl rfl kInt uInts zInt mg1 rfl (k := g) rfl HGC.out ?_)
        | (at_mapUpdate; refine wp_upd rfl rfl kInt uInts mg1 rfl (k := g) rfl (u := .int .i64 (cg + 1)) rfl ?_; intro w2 mg2 f2 z2; have s1 := (((H.out.s1.fr fq (fun h => h)).fr f1 (fun e => hgS e.symm)).fr f2 (fun e => hgS e.symm)).c; have HN2 := hid ((HN.out.fr f1 (fun e => (Nat.ne_of_lt H.out.mg.lt) e.symm)).fr f2 (fun e => (Nat.ne_of_lt H.out.mg.lt) e.symm)); have b0 := HN2.out.c0.c; have b1 := HN2.out.c1.c; have b2 := HN2.out.c2.c; simp only at b1 b2; have HP2 := hid (((HP.out.fr fq (fun h => h)).fr f1 hpg).fr f2 hpg); have p0 := HP2.out.c0.c; have p1 := HP2.out.c1.c; have p2 := HP2.out.c2.c; have x0 := HP2.out.c0.f; have x1 := HP2.out.c1.f; have x2 := HP2.out.c2.f; simp only at p1 p2; have mr2 := ((H.out.mr.fr fq (fun h => h)).fr f1 (fun e => n3.out e)).fr f2 (fun e => n3.out e))
        | (at_lookup; refine wp_look1 rfl rfl kInt uInts zInt (mr2.fr (set3_fr _ _ _ _ _) (fun e => hpr e.symm)) rfl (k := id) rfl HGR.out ?_)
        | (at_mapUpdate; refine wp_upd rfl rfl kInt uInts (mr2.fr (set3_fr _ _ _ _ _) (fun e => hpr e.symm)) rfl (k := id) rfl (u := .int .i64 (rg + 1)) rfl ?_; intro w4 mr4 f4 z4)
        | go_in)
      go_ret
      have e1 : putF f id g t = putD f id g t := by unfold putF; rw [HE.out]; rfl
      have e2 : putR f r id g t = incC r id := by unfold putR; rw [HE.out]; rfl
      rw [HE.out, e1, e2]
      obtain ⟨i1, i2⟩ := HI.out
      have f3 := set3_fr w2 pb (.int .i64 id) (.int .i64 g) (.string t)
      have HN3 := HP2.out.set (k := id) g t
      generalize ((w2.setCell ⟨pb, 0, none⟩ (.int .i64 id)).setCell ⟨pb, 1, none⟩ (.int .i64 g)).setCell ⟨pb, 2, none⟩ (.string t) = w3 at *
      have gS : ∀ {o v}, At w bS o v → At w4 bS o v := fun h => ((((h.fr fq (fun h => h)).fr f1 (fun e => hgS e.symm)).fr f2 (fun e => hgS e.symm)).fr f3 (fun e => hpS e.symm)).fr f4 (fun e => hrS e.symm)
      rw [← HCG.out, cm_inc, ← HX.out] at mg2
      rw [← HRG.out, cm_inc] at mr4
      have md4 := ((((H.out.md.fr fq (fun h => h)).fr f1 (fun e => n2.out e)).fr f2 (fun e => n2.out e)).fr f3 (fun e => hpd e.symm)).fr f4 (fun e => n1.out e)
      rw [← dm_put_old HF.out g t] at md4
      have sm : ∀ k, (putD f id g t k).isSome = true → (f k).isSome = true := fun k hk => by
        by_cases ek : k = id
        · subst ek; rw [HF.out]; rfl
        · exact some_put hk ek
      refine ⟨rfl, ⟨bd, br, bg, p, _, _, _, ⟨gS H.out.s0, gS H.out.s1, gS H.out.s2, md4, mr4, (mg2.fr f3 (fun e => hpg e.symm)).fr f4 (fun e => n3.out e.symm), n1.out, n2.out, n3.out, ?_, fun j k hj hk => H.out.inj j k (sm j hj) (sm k hk), fun k hk => H.out.pne k (sm k hk), fun k hk => .inl (H.out.pF k (sm k hk)), .inl H.out.fS, .inl H.out.fd, .inl H.out.fr, .inl H.out.fg, ?_, ?_, ?_⟩⟩, ?_⟩
      · intro k d hd
        by_cases ek : k = id
        · subst ek
          simp only [putD, if_true, Option.some.injEq] at hd
          subst hd
          rw [← HPB.out]
          exact HN3.fr f4 hpr
        · unfold putD at hd
          rw [if_neg ek] at hd
          have hd0 := H.out.docs k d hd
          have hg0 : p k ≠ bg := fun e => H.out.mg.ne_at hd0.c0 e.symm
          have hr0 : p k ≠ br := fun e => H.out.mr.ne_at hd0.c0 e.symm
          have hp0 : p k ≠ pb := fun e => ek (H.out.inj k id (by rw [hd]; rfl) (by rw [HF.out]; rfl) (by rw [e, HPB.out]))
          exact ((((hd0.fr fq (fun h => h)).fr f1 hg0).fr f2 hg0).fr f3 hp0).fr f4 hr0
      · exact H.out.ok.put i1 i2 (by omega) (by omega) (by have := HT.out; omega) (.inl (by rw [HF.out]; rfl))
      · intro k hk
        have := H.out.rlo k (sm k hk)
        unfold incC
        split <;> omega
      · intro k hk
        unfold incC at hk
        by_cases ek : k = id
        · rw [ek]; exact ⟨i1, i2⟩
        · rw [if_neg ek] at hk; exact H.out.rrg k hk
      · exact (((fq.mono (S' := F) (fun _ _ h => h.elim)).then (f1.mono (S' := F) (fun i _ e => e ▸ H.out.fg)) (fun _ _ h => h)).then (f2.mono (S' := F) (fun i _ e => e ▸ H.out.fg)) (fun _ _ h => h)).then ((f3.mono (S' := F) (fun i _ e => by rw [e, HPB.out]; exact H.out.pF id (by rw [HF.out]; rfl))).then (f4.mono (S' := F) (fun i _ e => e ▸ H.out.fr)) (fun _ _ h => h)) (fun _ _ h => h)
    · have hcmp : (d2.toList == t.toList) = false := str_ne (fun e => hsame ⟨hd1, e⟩)
      clear hsame
      subst hd1
      have HC : Hid (1 ≤ cnt f d1 ∧ cnt f d1 < 4611686018427387904) := by
        have h1 := cnt_pos H.out.ok (t := d2) (g := d1) HF.out
        have h2 := cnt_le f d1
        have h3 := nDocs_le f
        exact ⟨h1, by omega⟩
      have HX : Hid (cnt (putD f id d1 t) = incC (decC (cnt f) d1) d1) := cnt_put_old H.out.ok (t0 := d2) HF.out d1 t
      have HGC := hid (cm_get (decC (cnt f) d1) d1)
      have hc : (decC (cnt f) d1 d1 : Int) < 10 := by have := cnt_le f d1; have := nDocs_le f; unfold decC; split <;> omega
      have hc0 : (0 : Int) ≤ (decC (cnt f) d1 d1 : Int) := by omega
      generalize hcg : (decC (cnt f) d1 d1 : Int) = cg at *
      have HCG := hid hcg
      clear hcg
      generalize hrg : (r id : Int) = rg at *
      have HRG := hid hrg
      clear hrg
      clear hf
      have hpS : pb ≠ bS := by rw [HPB.out]; exact H.out.pne id (by rw [HF.out]; rfl)
      have hpg : pb ≠ bg := fun e => H.out.mg.ne_at HP.out.c0 e.symm
      have hpr : pb ≠ br := fun e => H.out.mr.ne_at HP.out.c0 e.symm
      have hpd : pb ≠ bd := fun e => H.out.md.ne_at HP.out.c0 e.symm
      go_enter Tryz.func77, Tryz.ntmps77
      go_wp2_with (first
        | (go_at_call 100; refine (good_any id _).mono ?_; rintro e w1 ⟨rfl, hw1⟩; obtain rfl := hw1.symm; rw [hg])
        | (go_at_call 101; refine (text_any _ _ hts).mono ?_; rintro e w1 ⟨rfl, hw1⟩; obtain rfl := hw1.symm; rw [hok])
        | (at_lookup; refine wp_look2 rfl rfl kInt uDocs zPtr (H.out.md.fr (fa _) (fun h => h)) rfl (k := id) rfl (v := .pointer (some ⟨pb, 0, none⟩)) (s := true) (by rw [HD.out]; rfl) (by rw [HD.out]; rfl) ?_)
        | go_in)
      go_quiet (fail)
      have fq : Fr (fun _ => False) w ((w.alloc (.cells #[.int .i64 id, .int .i64 d1, .string t] 112)).drewN nq) := ((Fr.refl _ _).alloc _).drewN _
      have HN : Hid (DocAt ((w.alloc (.cells #[.int .i64 id, .int .i64 d1, .string t] 112)).drewN nq) w.heap.size id (d1, t)) := ⟨(At.new w _ _ rfl).drewN nq, (At.new w _ _ rfl).drewN nq, (At.new w _ _ rfl).drewN nq⟩
      have hzq : ((w.alloc (.cells #[.int .i64 id, .int .i64 d1, .string t] 112)).drewN nq).heap.size = w.heap.size + 1 := by simp [World.drewN]
      generalize (w.alloc (.cells #[.int .i64 id, .int .i64 d1, .string t] 112)).drewN nq = wq at *
      have c1 := ((HP.out.fr fq (fun h => h)).c1).c
      simp only at c1
      go_wp2_with (first
        | (go_at_call 102; refine (leave_any (H.out.s2.fr fq (fun h => h)) (H.out.mg.fr fq (fun h => h)) HC.out.1 HC.out.2).mono ?_; rintro e w1 ⟨rfl, ⟨q1, mg1⟩, f1, z1⟩; have s2 := ((H.out.s2.fr fq (fun h => h)).fr f1 (fun e => hgS e.symm)).c)
        | (at_lookup; refine wp_look1 rfl rfl kInt uInts zInt mg1 rfl (k := d1) rfl HGC.out ?_)
        | (at_mapUpdate; refine wp_upd rfl rfl kInt uInts mg1 rfl (k := d1) rfl (u := .int .i64 (cg + 1)) rfl ?_; intro w2 mg2 f2 z2; have s1 := (((H.out.s1.fr fq (fun h => h)).fr f1 (fun e => hgS e.symm)).fr f2 (fun e => hgS e.symm)).c; have HN2 := hid ((HN.out.fr f1 (fun e => (Nat.ne_of_lt H.out.mg.lt) e.symm)).fr f2 (fun e => (Nat.ne_of_lt H.out.mg.lt) e.symm)); have b0 := HN2.out.c0.c; have b1 := HN2.out.c1.c; have b2 := HN2.out.c2.c; simp only at b1 b2; have HP2 := hid (((HP.out.fr fq (fun h => h)).fr f1 hpg).fr f2 hpg); have p0 := HP2.out.c0.c; have p1 := HP2.out.c1.c; have p2 := HP2.out.c2.c; have x0 := HP2.out.c0.f; have x1 := HP2.out.c1.f; have x2 := HP2.out.c2.f; simp only at p1 p2; have mr2 := ((H.out.mr.fr fq (fun h => h)).fr f1 (fun e => n3.out e)).fr f2 (fun e => n3.out e))
        | (at_lookup; refine wp_look1 rfl rfl kInt uInts zInt (mr2.fr (set3_fr _ _ _ _ _) (fun e => hpr e.symm)) rfl (k := id) rfl HGR.out ?_)
        | (at_mapUpdate; refine wp_upd rfl rfl kInt uInts (mr2.fr (set3_fr _ _ _ _ _) (fun e => hpr e.symm)) rfl (k := id) rfl (u := .int .i64 (rg + 1)) rfl ?_; intro w4 mr4 f4 z4)
        | go_in)
      go_ret
      have e1 : putF f id d1 t = putD f id d1 t := by unfold putF; rw [HE.out]; rfl
      have e2 : putR f r id d1 t = incC r id := by unfold putR; rw [HE.out]; rfl
      rw [HE.out, e1, e2]
      obtain ⟨i1, i2⟩ := HI.out
      have f3 := set3_fr w2 pb (.int .i64 id) (.int .i64 d1) (.string t)
      have HN3 := HP2.out.set (k := id) d1 t
      generalize ((w2.setCell ⟨pb, 0, none⟩ (.int .i64 id)).setCell ⟨pb, 1, none⟩ (.int .i64 d1)).setCell ⟨pb, 2, none⟩ (.string t) = w3 at *
      have gS : ∀ {o v}, At w bS o v → At w4 bS o v := fun h => ((((h.fr fq (fun h => h)).fr f1 (fun e => hgS e.symm)).fr f2 (fun e => hgS e.symm)).fr f3 (fun e => hpS e.symm)).fr f4 (fun e => hrS e.symm)
      rw [← HCG.out, cm_inc, ← HX.out] at mg2
      rw [← HRG.out, cm_inc] at mr4
      have md4 := ((((H.out.md.fr fq (fun h => h)).fr f1 (fun e => n2.out e)).fr f2 (fun e => n2.out e)).fr f3 (fun e => hpd e.symm)).fr f4 (fun e => n1.out e)
      rw [← dm_put_old HF.out d1 t] at md4
      have sm : ∀ k, (putD f id d1 t k).isSome = true → (f k).isSome = true := fun k hk => by
        by_cases ek : k = id
        · subst ek; rw [HF.out]; rfl
        · exact some_put hk ek
      refine ⟨rfl, ⟨bd, br, bg, p, _, _, _, ⟨gS H.out.s0, gS H.out.s1, gS H.out.s2, md4, mr4, (mg2.fr f3 (fun e => hpg e.symm)).fr f4 (fun e => n3.out e.symm), n1.out, n2.out, n3.out, ?_, fun j k hj hk => H.out.inj j k (sm j hj) (sm k hk), fun k hk => H.out.pne k (sm k hk), fun k hk => .inl (H.out.pF k (sm k hk)), .inl H.out.fS, .inl H.out.fd, .inl H.out.fr, .inl H.out.fg, ?_, ?_, ?_⟩⟩, ?_⟩
      · intro k d hd
        by_cases ek : k = id
        · subst ek
          simp only [putD, if_true, Option.some.injEq] at hd
          subst hd
          rw [← HPB.out]
          exact HN3.fr f4 hpr
        · unfold putD at hd
          rw [if_neg ek] at hd
          have hd0 := H.out.docs k d hd
          have hg0 : p k ≠ bg := fun e => H.out.mg.ne_at hd0.c0 e.symm
          have hr0 : p k ≠ br := fun e => H.out.mr.ne_at hd0.c0 e.symm
          have hp0 : p k ≠ pb := fun e => ek (H.out.inj k id (by rw [hd]; rfl) (by rw [HF.out]; rfl) (by rw [e, HPB.out]))
          exact ((((hd0.fr fq (fun h => h)).fr f1 hg0).fr f2 hg0).fr f3 hp0).fr f4 hr0
      · exact H.out.ok.put i1 i2 (by omega) (by omega) (by have := HT.out; omega) (.inl (by rw [HF.out]; rfl))
      · intro k hk
        have := H.out.rlo k (sm k hk)
        unfold incC
        split <;> omega
      · intro k hk
        unfold incC at hk
        by_cases ek : k = id
        · rw [ek]; exact ⟨i1, i2⟩
        · rw [if_neg ek] at hk; exact H.out.rrg k hk
      · exact (((fq.mono (S' := F) (fun _ _ h => h.elim)).then (f1.mono (S' := F) (fun i _ e => e ▸ H.out.fg)) (fun _ _ h => h)).then (f2.mono (S' := F) (fun i _ e => e ▸ H.out.fg)) (fun _ _ h => h)).then ((f3.mono (S' := F) (fun i _ e => by rw [e, HPB.out]; exact H.out.pF id (by rw [HF.out]; rfl))).then (f4.mono (S' := F) (fun i _ e => e ▸ H.out.fr)) (fun _ _ h => h)) (fun _ _ h => h)

end Go.Proofs.Qxb6500450aGreat
