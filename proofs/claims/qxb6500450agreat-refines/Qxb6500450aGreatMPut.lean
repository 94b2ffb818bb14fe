/- The model's Put. -/
import Derived.Test.Qxb6500450aGreatMDrop
namespace Go.Proofs.Qxb6500450aGreat
open Go Go.RowKit
set_option maxRecDepth 100000
set_option maxHeartbeats 1600000
set_option linter.unusedSimpArgs false
set_option linter.unusedVariables false

/-- The model's other cells. -/
structure MK (w : World) (bM : Nat) (r : Int → Nat) : Prop where
  rev : ∀ i : Nat, i < 10 → At w bM (1 + i) (.int .i64 (r (i : Int) : Int))
  ask : ∃ x : Int, At w bM 11 (.int .i64 x)
theorem MK.fr {w w' : World} {bM : Nat} {r : Int → Nat} (h : MK w bM r) {S : Nat → Prop} (hf : Fr S w w') (hn : ¬ S bM) : MK w' bM r := by
  obtain ⟨x, h4⟩ := h.ask
  exact ⟨fun i hi => (h.rev i hi).fr hf hn, ⟨x, h4.fr hf hn⟩⟩
theorem MK.row {w : World} {bM : Nat} {r : Int → Nat} (h : MK w bM r) (v : Value) : MK (w.setCell ⟨bM, 0, none⟩ v) bM r := by
  obtain ⟨x, h4⟩ := h.ask
  exact ⟨fun i hi => (h.rev i hi).other (by omega) _, ⟨x, h4.other (by omega) _⟩⟩
theorem MK.inc {w : World} {bM : Nat} {r : Int → Nat} (h : MK w bM r) {n : Nat} (hn : n < 10) {y : Int} (hy : y = (r (n : Int) : Int) + 1) : MK (w.setCell ⟨bM, 1 + n, none⟩ (.int .i64 y)) bM (incC r (n : Int)) := by
  obtain ⟨x, h4⟩ := h.ask
  refine ⟨fun i hi => ?_, ⟨x, h4.other (by omega) _⟩⟩
  by_cases e : i = n
  · subst e
    refine ((h.rev i hi).same _).val ?_
    rw [hy]
    simp [incC]
  · refine ((h.rev i hi).other (by omega) _).val ?_
    have : ¬ ((i : Int) = (n : Int)) := by omega
    simp [incC, this]

theorem PartAt.one (w : World) (d : D3) (t : TypeId) (c : Nat) : PartAt (w.alloc (.cells #[.int .i64 d.1, .int .i64 d.2.1, .string d.2.2] t)) (some ⟨w.heap.size, 0, none⟩) c [d] := by
  refine .inr ⟨w.heap.size, 0, rfl, by simp, fun j u hj => ?_⟩
  rw [Nat.zero_add]
  refine (At.new w _ _ ?_).c
  rw [← hj]
  match j with
  | 0 => rfl
  | 1 => rfl
  | 2 => rfl
  | j + 3 => simp [cells3]

theorem set3_fr3 (w : World) (p o : Nat) (a b c : Value) : Fr (fun i => i = p) w (((w.setCell ⟨p, o, none⟩ a).setCell ⟨p, o + 1, none⟩ b).setCell ⟨p, o + 2, none⟩ c) :=
  (((Fr.refl (fun i => i = p) w).setCell (p := ⟨p, o, none⟩) (fun _ => rfl) a).setCell (p := ⟨p, o + 1, none⟩) (fun _ => rfl) b).setCell (p := ⟨p, o + 2, none⟩) (fun _ => rfl) c

theorem mput_any {w : World} {G : Nat → Prop} {bM : Nat} {f : DocF} {r : Int → Nat} (h : MR w G bM f r) (hG : ∀ i, G i → i < w.heap.size) (id g : Int) (t : ByteArray) (hr : ∀ k, r k < 4611686018427387904) :
    Calls Tryz.prog 88 #[.pointer (some ⟨bM, 0, none⟩), .int .i64 id, .int .i64 g, .string t] w fun e w' => e = .returned (.int .i64 (putE f id g t)) ∧ MR w' (fun i => G i ∨ w.heap.size ≤ i) bM (putF f id g t) (putR f r id g t) ∧ Fr G w w' := by
  have H := hid h
  have HGG := hid hG
  have HR := hid hr
  have HW := hid (h.wide (G' := fun i => G i ∨ w.heap.size ≤ i) (fun i hi => .inl hi))
  clear hG hr
  by_cases ht : 12 < t.size
  · have HE : Hid (putE f id g t = 1) := by simp [Hid, putE, ht]
    have hti : (12 : Int) < (t.size : Int) := by omega
    clear ht h
    go_enter Tryz.func88, Tryz.ntmps88
    go_wp2_with fail
    go_ret
    have e1 : putF f id g t = f := by unfold putF; rw [HE.out]; rfl
    have e2 : putR f r id g t = r := by unfold putR; rw [HE.out]; rfl
    rw [HE.out, e1, e2]
    exact ⟨rfl, HW.out, Fr.refl _ _⟩
  have hti : ¬ (12 : Int) < (t.size : Int) := by omega
  rcases hg : goodB id with _ | _
  · have HE : Hid (putE f id g t = 2) := by simp [Hid, putE, ht, hg]
    have hbad : id < 1 ∨ 9 < id := by simp [goodB] at hg; omega
    clear hg ht h
    by_cases g1 : id < 1
    · clear hbad
      go_enter Tryz.func88, Tryz.ntmps88
      go_wp2_with fail
      go_ret
      have e1 : putF f id g t = f := by unfold putF; rw [HE.out]; rfl
      have e2 : putR f r id g t = r := by unfold putR; rw [HE.out]; rfl
      rw [HE.out, e1, e2]
      exact ⟨rfl, HW.out, Fr.refl _ _⟩
    · have g2 : 9 < id := by omega
      clear hbad
      go_enter Tryz.func88, Tryz.ntmps88
      go_wp2_with fail
      go_ret
      have e1 : putF f id g t = f := by unfold putF; rw [HE.out]; rfl
      have e2 : putR f r id g t = r := by unfold putR; rw [HE.out]; rfl
      rw [HE.out, e1, e2]
      exact ⟨rfl, HW.out, Fr.refl _ _⟩
  have hgi : 1 ≤ id ∧ id ≤ 9 := by simpa [goodB] using hg
  obtain ⟨i1, i2⟩ := hgi
  by_cases hgl : g < 0
  · have HE : Hid (putE f id g t = 3) := by simp [Hid, putE, ht, hg, hgl]
    clear ht hg h
    go_enter Tryz.func88, Tryz.ntmps88
    go_wp2_with fail
    go_ret
    have e1 : putF f id g t = f := by unfold putF; rw [HE.out]; rfl
    have e2 : putR f r id g t = r := by unfold putR; rw [HE.out]; rfl
    rw [HE.out, e1, e2]
    exact ⟨rfl, HW.out, Fr.refl _ _⟩
  by_cases hgh : 2 < g
  · have HE : Hid (putE f id g t = 3) := by simp [Hid, putE, ht, hg, hgh]
    clear ht hg h
    go_enter Tryz.func88, Tryz.ntmps88
    go_wp2_with fail
    go_ret
    have e1 : putF f id g t = f := by unfold putF; rw [HE.out]; rfl
    have e2 : putR f r id g t = r := by unfold putR; rw [HE.out]; rfl
    rw [HE.out, e1, e2]
    exact ⟨rfl, HW.out, Fr.refl _ _⟩
  have hts : t.size ≤ 1000000 := by omega
  have HT := hid ht
  have HG1 := hid hg
  clear ht hg
  rcases hok : textOK t with _ | _
  · have HE : Hid (putE f id g t = 4) := by have ht := HT.out; have hg := HG1.out; simp [Hid, putE, ht, hg, hgl, hgh, hok]
    clear h
    go_enter Tryz.func88, Tryz.ntmps88
    go_wp2_with (first
      | (go_at_call 101; refine (text_any t _ hts).mono ?_; rintro e w1 ⟨rfl, hw1⟩; obtain rfl := hw1.symm; rw [hok])
      | go_in)
    go_ret
    have e1 : putF f id g t = f := by unfold putF; rw [HE.out]; rfl
    have e2 : putR f r id g t = r := by unfold putR; rw [HE.out]; rfl
    rw [HE.out, e1, e2]
    exact ⟨rfl, HW.out, Fr.refl _ _⟩
  obtain hf | ⟨d, hf⟩ := opt (f id)
  · by_cases hn6 : nDocs f = 6
    · have HE : Hid (putE f id g t = 5) := by have ht := HT.out; have hg := HG1.out; simp [Hid, putE, ht, hg, hgl, hgh, hok, hf, hn6]
      obtain ⟨v, q1, q2, q3⟩ := h.row
      obtain ⟨a, cap, rfl, _⟩ := q2.slice
      rw [lst_len, hn6] at q1
      have Q1 := hid q1
      have HF := hid hf
      clear h hn6 hf q1 q2 q3
      go_enter Tryz.func88, Tryz.ntmps88
      go_wp2_with (first
        | (go_at_call 101; refine (text_any t _ hts).mono ?_; rintro e w1 ⟨rfl, hw1⟩; obtain rfl := hw1.symm; rw [hok])
        | (go_at_call 104; refine (mat_any H.out i1 i2).mono ?_; rintro e w2 ⟨rfl, f2⟩; rw [HF.out]; have c0 := (Q1.out.fr f2 (fun h => h)).c)
        | go_in)
      go_ret
      have e1 : putF f id g t = f := by unfold putF; rw [HE.out]; rfl
      have e2 : putR f r id g t = r := by unfold putR; rw [HE.out]; rfl
      rw [HE.out, e1, e2]
      exact ⟨rfl, HW.out.frw f2 (fun _ _ h => h), f2.mono (fun _ _ h => h.elim)⟩
    · have HE : Hid (putE f id g t = 0) := by have ht := HT.out; have hg := HG1.out; simp [Hid, putE, ht, hg, hgl, hgh, hok, hn6]
      obtain ⟨n, rfl⟩ : ∃ n : Nat, id = (n : Int) := ⟨id.toNat, by omega⟩
      obtain ⟨v, q1, q2, q3⟩ := h.row
      have HK := hid (MK.mk h.rev h.ask)
      have HV := hid q3
      have HOK : Hid (OkF (putD f (n : Int) g t)) := h.ok.put i1 i2 (by omega) (by omega) (by have := HT.out; omega) (.inr (by have := h.ok.few; omega))
      obtain ⟨a, cap, rfl, _⟩ := q2.slice
      have hls := lst_none i1 i2 hf
      have hlp := lst_put (f := f) i1 i2 g t
      have hn9 : (lst f).length ≤ 9 := by rw [lst_len]; exact nDocs_le f
      have hl6 : (lst f).length ≠ 6 := by rw [lst_len]; exact hn6
      have HF := hid hf
      have HBM := hid h.lt
      have hAe : atN f (n : Int) = (part f (loN (n : Int))).length := rfl
      obtain ⟨X, hX⟩ : ∃ X, X = part f (loN (n : Int)) := ⟨_, rfl⟩
      obtain ⟨Y, hY⟩ : ∃ Y, Y = part f (hiN (n : Int)) := ⟨_, rfl⟩
      rw [← hX, ← hY] at hls hlp
      rw [← hX] at hAe
      rw [hls] at q1 q2 hn9 hl6 HV
      obtain ⟨L, hL⟩ : ∃ L, L = (X ++ Y).length := ⟨_, rfl⟩
      rw [← hL] at q1 q2 hn9 hl6 HV
      have hL' : L = X.length + Y.length := by rw [hL]; simp
      have Q1 := hid q1
      have Q2 := hid q2
      have HAE := hid hAe
      have HLP := hid hlp
      have hl6b : ((L : Int) == 6) = false := by simp; omega
      have hLI : (L : Int) ≤ 9 := by omega
      have hXI : (X.length : Int) ≤ 9 := by omega
      have hr0 : (0 : Int) ≤ (r (n : Int) : Int) := by omega
      have hr1 : (r (n : Int) : Int) < 4611686018427387904 := by have := HR.out (n : Int); omega
      have HL := hid hL'
      generalize hrg : (r (n : Int) : Int) = rg at hr0 hr1
      have HRG := hid hrg
      have hn10 : n < 10 := by omega
      clear h hf q1 q2 q3 hls hlp hAe hX hY hL hn6 hl6 hL' hrg
      go_enter Tryz.func88, Tryz.ntmps88
      go_wp2_with (first
        | (go_at_call 101; refine (text_any t _ hts).mono ?_; rintro e w1 ⟨rfl, hw1⟩; obtain rfl := hw1.symm; rw [hok])
        | (go_at_call 104; refine (mat_any H.out i1 i2).mono ?_; rintro e w2 ⟨rfl, f2⟩; rw [HF.out, HAE.out]; have F2 := hid f2; have q2 := Q1.out.fr f2 (fun h => h); have c0 := q2.c; obtain ⟨w3, e3, o3, f3⟩ := make_docs w2 (L + 1) (by omega); rw [show ((L + 1 : Nat) : Int) = (L : Int) + 1 from rfl] at e3; have F3 := hid f3; have c3 := (q2.fr f3 (fun h => h)).c; have HB2 : Hid (bM < w2.heap.size) := q2.lt; have HZ2 : Hid (w.heap.size ≤ w2.heap.size) := f2.size; have R2 := hid q2; have O2 := hid (Q2.out.fr f2 (fun _ _ h => h)); obtain ⟨p, hp⟩ : ∃ p, p = w2.heap.size := ⟨_, rfl⟩; rw [← hp] at e3 o3 HB2 HZ2; have O3 := hid o3; have HPP := hid hp; clear o3 f3 q2 f2 hp)
        | (refine wp_cutH rfl rfl (O2.out.fr F3.out (fun _ _ h => h)) (A := X) rfl rfl rfl rfl ?_; intro xa ca pa na)
        | (at_builtin; refine wp_appD rfl rfl O3.out rfl rfl pa rfl rfl (by have := HL.out; omega) (q := X.length) (by simp) ?_; intro w4 o4 f4)
        | (at_builtin; refine wp_appD rfl rfl (o4.fr ((Fr.refl (fun _ => False) w4).alloc _) (fun _ _ h => h)) rfl rfl (PartAt.one w4 (0, 0, ⟨#[]⟩) _ 1) rfl rfl (by have := HL.out; simp; omega) (q := X.length + 1) rfl ?_; intro w5 o5 f5; have q5 := (((R2.out.fr F3.out (fun h => h)).fr f4 (fun e => by have := HB2.out; omega)).alloc (.cells #[.int .i64 0, .int .i64 0, .string ⟨#[]⟩] 112)).fr f5 (fun e => by have := HB2.out; omega); have c5 := q5.c)
        | (refine wp_cutL rfl rfl ((((O2.out.fr F3.out (fun _ _ h => h)).fr f4 (fun k hk e => by have := (O2.out.lt hk).2; have := HPP.out; omega)).fr ((Fr.refl (fun _ => False) w4).alloc (.cells #[.int .i64 0, .int .i64 0, .string ⟨#[]⟩] 112)) (fun _ _ h => h)).fr f5 (fun k hk e => by have := (O2.out.lt hk).2; have := HPP.out; omega)) (A := X) (B := Y) rfl rfl rfl rfl ?_; intro xb cb pb nb)
        | (at_builtin; refine wp_appD rfl rfl o5 (by simp) rfl pb rfl rfl (by have := HL.out; omega) (q := X.length + 1 + Y.length) rfl ?_; intro w6 o6 f6; have q6 := q5.fr f6 (fun e => by have := HB2.out; omega); have c6 := q6.c; have x6 := q6.f; have kk := o6.cell (by simp; omega) (j := X.length) (by simp); have k0 := kk.1.c; have k1 := kk.2.1.c; have k2 := kk.2.2.c; have z0 := kk.1.f; have z1 := kk.2.1.f; have z2 := kk.2.2.f; have hbp : bM ≠ p := (by have := HB2.out; omega); have mk6 := ((((HK.out.fr F2.out (fun h => h)).fr F3.out (fun h => h)).fr f4 hbp).fr ((Fr.refl (fun _ => False) w4).alloc (.cells #[.int .i64 0, .int .i64 0, .string ⟨#[]⟩] 112)) (fun h => h)).fr f5 hbp |>.fr f6 hbp; have v6 := (mk6.rev n hn10).c; have u6 := (mk6.rev n hn10).f; rw [HRG.out] at v6; have MK6 := hid mk6; clear mk6 kk)
        | go_in)
      go_region
      go_wp2_with fail
      go_ret
      have e1 : putF f (n : Int) g t = putD f (n : Int) g t := by unfold putF; rw [HE.out]; rfl
      have e2 : putR f r (n : Int) g t = incC r (n : Int) := by unfold putR; rw [HE.out]; rfl
      rw [HE.out, e1, e2]
      have hpp := HPP.out
      have hz2 := HZ2.out
      have hfb : Fr (fun _ => False) w w6 := ((((((F2.out).trans F3.out).then f4 (fun i hi e => by omega)).alloc _).then f5 (fun i hi e => by omega)).then f6 (fun i hi e => by omega))
      have hf1 : Fr (fun i => i = bM) w6 (w6.setCell ⟨bM, 0, none⟩ (.slice (some ⟨p, 0, none⟩) (X.length + 1 + Y.length) (L + 1))) := (Fr.refl (fun i => i = bM) w6).setCell (p := ⟨bM, 0, none⟩) (fun _ => rfl) _
      have o7 := o6.fr hf1 (fun k hk e => by simp [Value.ownBlock] at hk; omega)
      have q7 := q6.same (.slice (some ⟨p, 0, none⟩) (X.length + 1 + Y.length) (L + 1))
      have mk7 := MK6.out.row (.slice (some ⟨p, 0, none⟩) (X.length + 1 + Y.length) (L + 1))
      generalize w6.setCell ⟨bM, 0, none⟩ (.slice (some ⟨p, 0, none⟩) (X.length + 1 + Y.length) (L + 1)) = w7 at *
      have hf2 := set3_fr3 w7 p (X.length * 3) (.int .i64 (n : Int)) (.int .i64 g) (.string t)
      have o8 := o7.set (by simp; omega) X.length ((n : Int), g, t)
      simp only at o8
      generalize ((w7.setCell ⟨p, X.length * 3, none⟩ (.int .i64 (n : Int))).setCell ⟨p, X.length * 3 + 1, none⟩ (.int .i64 g)).setCell ⟨p, X.length * 3 + 2, none⟩ (.string t) = w8 at *
      have q8 := q7.fr hf2 hbp
      have mk8 := mk7.fr hf2 hbp
      have mk9 := mk8.inc hn10 (y := rg + 1) (by rw [HRG.out])
      have hf3 : Fr (fun i => i = bM) w8 (w8.setCell ⟨bM, 1 + n, none⟩ (.int .i64 (rg + 1))) := (Fr.refl (fun i => i = bM) w8).setCell (p := ⟨bM, 1 + n, none⟩) (fun _ => rfl) _
      have q9 := q8.other (b' := bM) (o' := 1 + n) (by omega) (.int .i64 (rg + 1))
      have o9 := o8.fr hf3 (fun k hk e => by simp [Value.ownBlock] at hk; omega)
      have hl : (([] ++ X ++ [(0, 0, ⟨#[]⟩)] ++ Y : List D3)).set X.length ((n : Int), g, t) = lst (putD f (n : Int) g t) := by
        rw [HLP.out]
        simp
      rw [hl] at o9
      refine ⟨rfl, MR.frw ⟨⟨_, q9, o9.zero, fun k hk => ?_⟩, mk9.rev, mk9.ask, .inl H.out.gM, HOK.out, fun k hk => ?_⟩ ((Fr.refl (fun _ => False) _).drew) (fun _ _ h => h), ?_⟩
      · simp [Value.ownBlock] at hk
        subst hk
        exact ⟨.inr (by omega), fun e => hbp e.symm⟩
      · unfold incC at hk
        by_cases ek : k = (n : Int)
        · rw [ek]; exact ⟨i1, i2⟩
        · rw [if_neg ek] at hk; exact H.out.rrg k hk
      · exact (((((hfb.mono (S' := G) (fun _ _ h => h.elim)).then hf1 (fun i _ e => e ▸ H.out.gM)).then hf2 (fun i hi e => by omega)).then hf3 (fun i _ e => e ▸ H.out.gM))).drew
  · have HE : Hid (putE f id g t = 0) := by have ht := HT.out; have hg := HG1.out; simp [Hid, putE, ht, hg, hgl, hgh, hok, hf]
    obtain ⟨n, rfl⟩ : ∃ n : Nat, id = (n : Int) := ⟨id.toNat, by omega⟩
    obtain ⟨v, q1, q2, q3⟩ := h.row
    have HK := hid (MK.mk h.rev h.ask)
    have HOK : Hid (OkF (putD f (n : Int) g t)) := h.ok.put i1 i2 (by omega) (by omega) (by have := HT.out; omega) (.inl (by rw [hf]; rfl))
    have hls := lst_some i1 i2 hf
    have hlp := lst_put (f := f) i1 i2 g t
    obtain ⟨a, cap, rfl, ha⟩ := q2.slice
    obtain ⟨gb, rfl, _, hgl2⟩ := ha (by rw [hls]; simp)
    have hgG := q3 gb rfl
    have hn9 : (lst f).length ≤ 9 := by rw [lst_len]; exact nDocs_le f
    have HF := hid hf
    have HBM := hid h.lt
    have hAe : atN f (n : Int) = (part f (loN (n : Int))).length := rfl
    obtain ⟨X, hX⟩ : ∃ X, X = part f (loN (n : Int)) := ⟨_, rfl⟩
    obtain ⟨Y, hY⟩ : ∃ Y, Y = part f (hiN (n : Int)) := ⟨_, rfl⟩
    rw [← hX, ← hY] at hls hlp
    rw [← hX] at hAe
    rw [hls] at q1 q2 hn9
    obtain ⟨L, hL⟩ : ∃ L, L = (X ++ ((n : Int), d.1, d.2) :: Y).length := ⟨_, rfl⟩
    rw [← hL] at q1 q2 hn9
    have HL := hid hL
    have Q1 := hid q1
    have Q2 := hid q2
    have HAE := hid hAe
    have HLP := hid hlp
    have hLI : (L : Int) ≤ 9 := by omega
    have hXl : X.length < L := by rw [hL]; simp
    have hXI : (X.length : Int) < (L : Int) := by omega
    have hX0 : (0 : Int) ≤ (X.length : Int) := by omega
    have hr0 : (0 : Int) ≤ (r (n : Int) : Int) := by omega
    have hr1 : (r (n : Int) : Int) < 4611686018427387904 := by have := HR.out (n : Int); omega
    generalize hrg : (r (n : Int) : Int) = rg at hr0 hr1
    have HRG := hid hrg
    have hn10 : n < 10 := by omega
    have HGB := hid hgG
    have hbp : bM ≠ gb := fun e => hgG.2 e.symm
    clear h hf q1 q2 q3 hls hlp hAe hX hY hL hrg ha hgG
    go_enter Tryz.func88, Tryz.ntmps88
    go_wp2_with (first
      | (go_at_call 101; refine (text_any t _ hts).mono ?_; rintro e w1 ⟨rfl, hw1⟩; obtain rfl := hw1.symm; rw [hok])
      | (go_at_call 104; refine (mat_any H.out i1 i2).mono ?_; rintro e w2 ⟨rfl, f2⟩; rw [HF.out, HAE.out]; have q2 := Q1.out.fr f2 (fun h => h); have Q7 := hid q2; have c0 := q2.c; have o7 := Q2.out.fr f2 (fun _ _ h => h); have O7 := hid o7; have kk := o7.cell HL.out (j := X.length) (by have := HL.out; omega); have k0 := kk.1.c; have k1 := kk.2.1.c; have k2 := kk.2.2.c; have z0 := kk.1.f; have z1 := kk.2.1.f; have z2 := kk.2.2.f; have mk7 := HK.out.fr f2 (fun h => h); have v6 := (mk7.rev n hn10).c; have u6 := (mk7.rev n hn10).f; rw [HRG.out] at v6; have MK7 := hid mk7; have F2 := hid f2; clear mk7 kk o7 q2 f2)
      | go_in)
    go_region
    go_wp2_with fail
    go_ret
    have e1 : putF f (n : Int) g t = putD f (n : Int) g t := by unfold putF; rw [HE.out]; rfl
    have e2 : putR f r (n : Int) g t = incC r (n : Int) := by unfold putR; rw [HE.out]; rfl
    rw [HE.out, e1, e2]
    have hf2 := set3_fr3 w2 gb (X.length * 3) (.int .i64 (n : Int)) (.int .i64 g) (.string t)
    have o8 := O7.out.set HL.out X.length ((n : Int), g, t)
    simp only at o8
    generalize ((w2.setCell ⟨gb, X.length * 3, none⟩ (.int .i64 (n : Int))).setCell ⟨gb, X.length * 3 + 1, none⟩ (.int .i64 g)).setCell ⟨gb, X.length * 3 + 2, none⟩ (.string t) = w8 at *
    have q8 := Q7.out.fr hf2 hbp
    have mk8 := MK7.out.fr hf2 hbp
    have mk9 := mk8.inc hn10 (y := rg + 1) (by rw [HRG.out])
    have hf3 : Fr (fun i => i = bM) w8 (w8.setCell ⟨bM, 1 + n, none⟩ (.int .i64 (rg + 1))) := (Fr.refl (fun i => i = bM) w8).setCell (p := ⟨bM, 1 + n, none⟩) (fun _ => rfl) _
    have q9 := q8.other (b' := bM) (o' := 1 + n) (by omega) (.int .i64 (rg + 1))
    have o9 := o8.fr hf3 (fun k hk e => by simp [Value.ownBlock] at hk; omega)
    have hl : (X ++ ((n : Int), d.1, d.2) :: Y).set X.length ((n : Int), g, t) = lst (putD f (n : Int) g t) := by
      rw [HLP.out]
      simp
    rw [hl] at o9
    refine ⟨rfl, MR.frw ⟨⟨_, q9, o9, fun k hk => ?_⟩, mk9.rev, mk9.ask, .inl H.out.gM, HOK.out, fun k hk => ?_⟩ ((Fr.refl (fun _ => False) _).drew) (fun _ _ h => h), ?_⟩
    · simp [Value.ownBlock] at hk
      subst hk
      exact ⟨.inl HGB.out.1, HGB.out.2⟩
    · unfold incC at hk
      by_cases ek : k = (n : Int)
      · rw [ek]; exact ⟨i1, i2⟩
      · rw [if_neg ek] at hk; exact H.out.rrg k hk
    · exact ((((F2.out.mono (S' := G) (fun _ _ h => h.elim)).then hf2 (fun i hi e => e ▸ HGB.out.1)).then hf3 (fun i _ e => e ▸ H.out.gM))).drew

end Go.Proofs.Qxb6500450aGreat
