/- The model's Show. -/
import Derived.Test.Qxb6500450aGreatPWords
namespace Go.Proofs.Qxb6500450aGreat
open Go Go.RowKit
set_option maxRecDepth 100000
set_option maxHeartbeats 1600000
set_option linter.unusedSimpArgs false
set_option linter.unusedVariables false
variable {bM : Nat}

theorem yshow_any {w : World} {G : Nat → Prop} {bY : Nat} {f : DocF} {r : Int → Nat} (h : YR bM w G bY f r) (hG : ∀ i, G i → i < w.heap.size) (hr : ∀ k, r k < 4611686018427387904) :
    Calls Tryz.prog 44 #[.pointer (some ⟨bY, 0, none⟩)] w fun e w' => e = .returned (.string (bs (showI f r))) ∧ YR bM w' G bY f r ∧ Fr G w w' := by
  have OK := hid h.ok
  have HG := hid hG
  obtain ⟨GS, h⟩ := h
  have H := hid h
  have c0 := h.y0.c
  have HS := hid (mshow_any h.mr (fun i hi => (h.gs i hi).2) hr)
  have zs : (bs (showL f r)).size ≤ 1000 := by rw [bs_size]; exact showL_len h.mr.ok r
  clear h hr hG
  go_enter Tryz.func44, Tryz.ntmps44
  go_wp2_with fail
  refine HS.out.mono ?_
  rintro e w1 ⟨rfl, hm1, f1⟩
  have H1 := hid (H.out.asks f1 hm1)
  have F1 := hid (f1.mono (S' := G) (fun i _ e => e ▸ H.out.gM))
  clear hm1 f1 c0 HS
  have HW := hid (ywords_any ⟨GS, H1.out⟩ (fun i hi => Nat.lt_of_lt_of_le (HG.out i hi) F1.out.size))
  go_wp2_with fail
  refine HW.out.mono ?_
  rintro e w2 ⟨v, rfl, ow, _, hy2, f2⟩
  have OW := hid ow
  have H2 := hid hy2
  have F2 := hid (F1.out.trans f2)
  have HL := hid (wordsOf_len OK.out)
  have HSZ : Hid (∀ x ∈ wordsOf f, x.size ≤ 12) := fun x hx => (wordsOf_size OK.out hx).2
  have HZ1 := hid F1.out.size
  clear ow hy2 f2 zs HW
  obtain ⟨l, hl⟩ : ∃ l, l = wordsOf f := ⟨_, rfl⟩
  rw [← hl] at OW HL HSZ
  have HLS := hid hl
  clear hl
  obtain ⟨va, vc, hv⟩ := OW.out.form
  subst hv
  have hlen : (l.length : Int) ≤ 117 := by have := HL.out; omega
  have e0 : bs (showL f r) ++ ⟨#[35]⟩ = bs (showX f r []) := by
    unfold showX
    rw [show (⟨#[35]⟩ : ByteArray) = bs [35] from rfl, bs_append]
    simp
  rw [e0]
  clear e0
  go_wp2_with fail
  go_loopw [3, 5] (fun s a wr => ∃ k : Nat, k ≤ l.length ∧ a = .int .i64 k ∧ s = .string (bs (showX f r (l.take k))) ∧ YR bM wr G bY f r ∧ Fr G w2 wr) (fun _ a _ => l.length - (intOf a).toNat)
  case atStart => exact ⟨0, by omega, rfl, by simp, H2.out, Fr.refl _ _⟩
  case round =>
    clear H1 H2
    obtain ⟨k, hk, rfl, rfl, hy, fr⟩ := hrel
    have FR := hid fr
    have HY := hid hy
    have hk0 : (0 : Int) ≤ (k : Int) := by omega
    clear fr hy
    have HGR : Hid (∀ i, G i → i < wr.heap.size) := fun i hi => by have := HG.out i hi; have := F2.out.size; have := FR.out.size; omega
    by_cases hlt : k < l.length
    · have hltI : (k : Int) < (l.length : Int) := by omega
      rcases OW.out.empty with ⟨_, hn⟩ | ⟨gv, cv, hv, hgb, hgl⟩
      · rw [hn] at hlt; simp at hlt
      cases hv
      have nGv : ¬ G gv := fun c => by have := HG.out gv c; have := HZ1.out; omega
      have CW := hid ((OW.out.cell rfl hlt).fr FR.out nGv)
      have hsx := HSZ.out _ (getD_mem hlt)
      have HTK := hid (take_succ_getD l k hlt)
      have hz : (bs (showX f r (l.take k))).size ≤ 40000 := by
        rw [bs_size]
        have h1 := showX_len OK.out r (l.take k) (fun x hx => HSZ.out x (List.mem_of_mem_take hx))
        have h2 : (l.take k).length ≤ 117 := by rw [List.length_take]; omega
        omega
      generalize l.getD k ⟨#[]⟩ = x at *
      have cw := CW.out.c
      have HD := ydocs_any HY.out HGR.out x
      go_wp2_with fail
      refine HD.mono ?_
      clear HD
      rintro e w3 ⟨dv, rfl, ow3, _, hy3, f3⟩
      have OD := hid ow3
      have F3 := hid (FR.out.trans f3)
      have Y3 := hid hy3
      have C3 := hid (CW.out.fr f3 nGv)
      have HW3 : Hid (w.heap.size ≤ w3.heap.size) := Nat.le_trans F2.out.size F3.out.size
      have nD : Hid (∀ k, dv.ownBlock = some k → ¬ G k) := fun k hk c => by have := (ow3.lt hk).1; have := HGR.out k c; omega
      clear ow3 hy3 f3 cw
      go_wp2_with fail
      go_loopw [7, 8] (fun tv b wi => ∃ j : Nat, j ≤ 3 ∧ b = .int .i64 j ∧ OwnI wi w3.heap.size tv (talR f x j) ∧ (j = 0 → tv = .slice none 0 0) ∧ YR bM wi G bY f r ∧ Fr G w3 wi) (fun _ b _ => 3 - (intOf b).toNat)
      case atStart => exact ⟨0, by omega, rfl, OwnI.nil _ _, fun _ => rfl, Y3.out, Fr.refl _ _⟩
      case round =>
        clear Y3
        obtain ⟨j, hj, rfl, owt, hnl, hyi, fi⟩ := hrel
        have OT := hid owt
        have FI := hid fi
        have YI := hid hyi
        have hj0 : (0 : Int) ≤ (j : Int) := by omega
        clear owt hnl fi hyi
        generalize u7 = tv at *
        have CI := hid (C3.out.fr FI.out nGv)
        have HGI : Hid (∀ i, G i → i < wr.heap.size) := fun i hi => by have := HG.out i hi; have := HW3.out; have := FI.out.size; omega
        have nT : Hid (∀ k, tv.ownBlock = some k → ¬ G k) := fun k hk c => by have := (OT.out.lt hk).1; have := HG.out k c; have := HW3.out; omega
        by_cases hj3 : j < 3
        · have hj3I : (j : Int) ≤ 2 := by omega
          have cw := CI.out.c
          have HT := hid (talR_succ f x j)
          have hTl : (talR f x j).length ≤ 1000000 := by rw [talR_len]; omega
          have HTE : Hid (tal f (j : Int) x = tlK f ((j : Int), x)) := by unfold Hid tal; rw [if_neg (by omega)]
          have HTA := ytally_any YI.out HGI.out (j : Int) x
          rw [HTE.out] at HTA
          have HTA := hid HTA
          go_wp2_with fail
          refine HTA.out.mono ?_
          rintro e w5 ⟨rfl, y5, f5⟩
          have Y5 := hid y5
          have F5 := hid (FI.out.trans f5)
          have O5 := hid (OT.out.fr f5 nT.out)
          have hs5 := F5.out.size
          clear y5 f5 HTA cw OT
          go_wp2_with (first
            | (at_builtin; refine wp_appI rfl rfl (v := tv) rfl (O5.out.fr ((Fr.refl (fun _ => False) _).alloc _) (fun _ _ h => h)) rfl (y := (tlK f ((j : Int), x) : Int)) (At.new w5 #[.int .i64 (tlK f ((j : Int), x) : Int)] _ rfl).c hTl (by simp; omega) ?_; intro tg tc w7 ow7 f7 hg7 hl7; go_frame)
            | go_in)
          rw [← HT.out] at ow7
          refine ⟨⟨j + 1, by omega, by go_num, by have := ow7; exact this, fun e => absurd e (by omega), (Y5.out.frw ((Fr.refl (fun _ => False) _).alloc _) (fun _ _ h => h)).frw f7 (fun i hi c => nT.out i c hi), (F5.out.alloc _).then f7 (fun i hi c => by have := (O5.out.lt c).1; omega)⟩, by simp [intOf]; omega⟩
        · have hj3I : ¬ (j : Int) ≤ 2 := by omega
          have hje : j = 3 := by omega
          subst hje
          obtain ⟨da, dc, hdv, IA⟩ := (OD.out.fr FI.out nD.out).ints (docsOf_i64 f x)
          obtain ⟨ta, tc, htv, IT⟩ := OT.out.ints (talR_i64 f x 3)
          subst hdv htv
          have IA := hid IA
          have IT := hid IT
          have hdl : (docsOf f x).length ≤ 1000000 := by have := docsOf_le f x; omega
          have HI1 := hid (ints_any dc IA.out hdl)
          clear hdl
          go_wp2_with fail
          refine HI1.out.mono ?_
          rintro e w6 ⟨rfl, f6⟩
          have F6 := hid (FI.out.trans (f6.mono (S' := G) (fun _ _ h => h.elim)))
          have HI2 := hid (ints_any tc (IT.out.fr f6 (fun _ _ _ h => h)) (by rw [talR_len]; omega))
          have Y6 := hid (YI.out.frw f6 (fun _ _ h => h))
          clear f6 HI1 YI
          go_wp2_with fail
          refine HI2.out.mono ?_
          rintro e w7 ⟨rfl, f7⟩
          have F7 := hid (F6.out.trans (f7.mono (S' := G) (fun _ _ h => h.elim)))
          have Y7 := hid (Y6.out.frw f7 (fun _ _ h => h))
          clear f7 HI2 Y6
          have C7 := hid (C3.out.fr F7.out nGv)
          have cw := C7.out.c
          have z1 : (bs (ints (docsOf f x))).size ≤ 300 := by
            rw [bs_size]
            have h1 := ints_len (docsOf f x)
            have h2 := docsOf_le f x
            omega
          have z2 : (bs (ints (talR f x 3))).size ≤ 300 := by
            rw [bs_size]
            have h1 := ints_len (talR f x 3)
            rw [talR_len] at h1
            omega
          have HEQ : Hid (((((((bs (showX f r (l.take k)) ++ x) ++ ⟨#[61]⟩) ++ bs (ints (docsOf f x))) ++ ⟨#[64]⟩) ++ bs (ints (talR f x 3))) ++ ⟨#[59]⟩) = bs (showX f r (l.take (k + 1)))) := by
            unfold Hid
            rw [HTK.out, showX_snoc]
            unfold itemL
            rw [← bs_append, ← bs_append, ← bs_append, ← bs_append, ← bs_append, ← bs_append, bs_data]
            simp only [ByteArray.append_assoc]
            rfl
          generalize bs (ints (docsOf f x)) = s1 at *
          generalize bs (ints (talR f x 3)) = s2 at *
          generalize bs (showX f r (l.take k)) = s0 at *
          go_wp2_with fail
          exact ⟨⟨k + 1, by omega, by go_num, by rw [← HEQ.out], Y7.out, F3.out.trans F7.out⟩, by simp [intOf]; omega⟩
    · have hgeI : ¬ (k : Int) < (l.length : Int) := by omega
      have HE : Hid (l.take k = l) := List.take_of_length_le (by omega)
      rw [HE.out]
      go_wp2_with fail
      go_ret
      refine ⟨?_, HY.out, F2.out.trans FR.out⟩
      rw [HLS.out]
      rfl

end Go.Proofs.Qxb6500450aGreat
