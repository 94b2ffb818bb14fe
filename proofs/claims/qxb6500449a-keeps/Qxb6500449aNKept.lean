/- Kept. -/
import Derived.Test.Qxb6500449aNFound
namespace Go.Proofs.Qxb6500449a
open Go Go.RowKit
set_option maxRecDepth 100000
set_option maxHeartbeats 1600000
set_option linter.unusedSimpArgs false
set_option linter.unusedVariables false
variable {bS : Nat}

/-- A step lies in the block p. -/
structure OpAt (w : World) (p : Nat) (o : Stp) : Prop where
  a0 : At w p 0 (.int .i64 o.kind)
  a1 : At w p 1 (.int .i64 o.a)
  a2 : At w p 2 (.int .i64 o.b)
  a3 : At w p 3 (.int .i64 o.c)
  a4 : At w p 4 (.string o.s)
  a5 : At w p 5 (.string o.t)
theorem OpAt.fr {w w' : World} {p : Nat} {o : Stp} (h : OpAt w p o) {S : Nat → Prop} (hf : Fr S w w') (hn : ¬ S p) : OpAt w' p o :=
  ⟨h.a0.fr hf hn, h.a1.fr hf hn, h.a2.fr hf hn, h.a3.fr hf hn, h.a4.fr hf hn, h.a5.fr hf hn⟩
theorem OpAt.new (w : World) (o : Stp) : OpAt (w.alloc (.cells #[.int .i64 o.kind, .int .i64 o.a, .int .i64 o.b, .int .i64 o.c, .string o.s, .string o.t] 40)) w.heap.size o := ⟨At.new w _ _ rfl, At.new w _ _ rfl, At.new w _ _ rfl, At.new w _ _ rfl, At.new w _ _ rfl, At.new w _ _ rfl⟩

theorem frq_pos {f : DocF} (ok : OkF f) {x : ByteArray} (h : x ∈ wordsOf f) : 0 < frq f x := by
  unfold frq
  rw [if_neg (by have := wordsOf_size ok h; omega)]
  have := (wordsOf_mem ok x).1 h
  omega
theorem asc_next {l : List ByteArray} (h : l.Pairwise ltS) {k : Nat} (hk : k + 1 < l.length) : ltS (l.getD k ⟨#[]⟩) (l.getD (k + 1) ⟨#[]⟩) := by
  have h1 := List.pairwise_iff_getElem.1 h k (k + 1) (by omega) hk (by omega)
  rw [List.getD_eq_getElem?_getD, List.getD_eq_getElem?_getD, List.getElem?_eq_getElem (by omega), List.getElem?_eq_getElem hk]
  exact h1

theorem kept_any {w : World} {F : Nat → Prop} {bX : Nat} {f : DocF} {r : Int → Nat} (h : XR bS w F bX f r) (o : Stp) :
    Calls Try.prog 24 #[bwV bS, .pointer (some ⟨bX, 0, none⟩), o.val] w fun e w' => e = .returned (.bool true) ∧ Fr (fun _ => False) w w' := by
  have HX := hid h.bound
  have HOK := hid h.ok
  have HWL := hid (wordsOf_len h.ok)
  have HWA := hid (wordsOf_asc f)
  have HWZ : Hid (∀ x ∈ wordsOf f, x.size ≤ 12) := fun x hx => (wordsOf_size h.ok hx).2
  have HFP : Hid (∀ x ∈ wordsOf f, 0 < frq f x) := fun x hx => frq_pos h.ok hx
  have f0 := (Fr.refl (fun _ => False) w).alloc (.cells #[.pointer (some ⟨bS, 0, none⟩)] 27)
  have ab : At (w.alloc (.cells #[.pointer (some ⟨bS, 0, none⟩)] 27)) w.heap.size 0 (.pointer (some ⟨bS, 0, none⟩)) := At.new w _ _ rfl
  have hz : (w.alloc (.cells #[.pointer (some ⟨bS, 0, none⟩)] 27)).heap.size = w.heap.size + 1 := by simp
  have f1 := (Fr.refl (fun _ => False) (w.alloc (.cells #[.pointer (some ⟨bS, 0, none⟩)] 27))).alloc (.cells #[.int .i64 o.kind, .int .i64 o.a, .int .i64 o.b, .int .i64 o.c, .string o.s, .string o.t] 40)
  have AB := hid (ab.fr f1 (fun h => h))
  have AO := OpAt.new (w.alloc (.cells #[.pointer (some ⟨bS, 0, none⟩)] 27)) o
  rw [hz] at AO
  have AP := hid AO
  have FA := hid (f0.trans f1)
  clear h f0 ab hz f1 AO
  simp only [bwV, Stp.val]
  go_enter Try.func24, Try.ntmps24
  have cb0 := AB.out.c
  go_wp2_with fail
  clear cb0
  generalize (w.alloc (.cells #[.pointer (some ⟨bS, 0, none⟩)] 27)).alloc (.cells #[.int .i64 o.kind, .int .i64 o.a, .int .i64 o.b, .int .i64 o.c, .string o.s, .string o.t] 40) = w0 at *
  generalize w.heap.size + 1 = po at *
  refine (listed_any (HX.out.sr.frw FA.out (fun _ _ h => h))).mono ?_
  rintro e w1 ⟨v1, rfl, o1, n1, f1⟩
  have F1 := hid (FA.out.trans f1)
  have OID := hid o1
  have AB1 := hid (AB.out.fr f1 (fun h => h))
  have AP1 := hid (AP.out.fr f1 (fun h => h))
  clear o1 f1 n1 FA AB AP
  obtain ⟨pb, hpb⟩ : ∃ pb, pb = w.heap.size := ⟨_, rfl⟩
  rw [← hpb] at AB1 HX ⊢
  clear hpb
  have hln : (ids f).length = nDocs f := ids_len f
  have HLN := hid hln
  obtain ⟨ia, ic, hiv⟩ : ∃ a c, v1 = .slice a (nDocs f) c := by
    rcases OID.out.empty with ⟨e1, e2⟩ | ⟨g, cap, e1, _⟩
    · rw [e2] at hln; exact ⟨none, 0, by rw [e1, ← hln]; rfl⟩
    · exact ⟨_, cap, by rw [e1, hln]⟩
  subst hiv
  clear hln
  have X1 := hid (HX.out.frw F1.out (fun _ _ h => h))
  have hnd : (nDocs f : Int) ≤ 6 := by have := HOK.out.few; omega
  generalize hdn : nDocs f = dn at *
  have HDN := hid hdn
  clear hdn
  go_wp2_with (first
    | (go_at_call 41; refine (ilen_any X1.out).mono ?_; rintro e w2 ⟨rfl, hw2⟩; obtain rfl := hw2.symm; rw [HDN.out])
    | fail)
  go_loopw [8] (fun a wr => ∃ k : Nat, k ≤ 11 ∧ a = .int .i64 k ∧ Fr (fun _ => False) w1 wr) (fun a _ => 11 - (intOf a).toNat)
  case atStart => exact ⟨0, by omega, rfl, Fr.refl _ _⟩
  case round =>
    obtain ⟨k, hk, rfl, fr⟩ := hrel
    have FR := hid fr
    have XR1 := hid (X1.out.frw fr (fun _ _ h => h))
    have OIR := hid (OID.out.fr fr (fun _ _ h => h))
    have ABR := hid (AB1.out.fr fr (fun h => h))
    have APR := hid (AP1.out.fr fr (fun h => h))
    have cb := ABR.out.c
    clear fr
    by_cases hlt : k ≤ 10
    · have hltI : (k : Int) ≤ 10 := by omega
      go_wp2_with (first
        | (go_at_call 47; refine (named_any XR1.out OIR.out (k : Int)).mono ?_; rintro e w2 ⟨rfl, f2⟩; have F2 := hid (FR.out.trans f2); clear f2 cb)
        | fail)
      exact ⟨⟨k + 1, by omega, by go_num, F2.out⟩, by simp [intOf]; omega⟩
    · have hltI : ¬ (k : Int) ≤ 10 := by omega
      have ca := APR.out.a1.c
      go_wp2_with fail
      refine (named_any XR1.out OIR.out o.a).mono ?_
      rintro e w2 ⟨rfl, f2⟩
      have F2 := hid (FR.out.trans f2)
      have X2 := hid (XR1.out.frw f2 (fun _ _ h => h))
      have AB2 := hid (ABR.out.fr f2 (fun h => h))
      have AP2 := hid (APR.out.fr f2 (fun h => h))
      clear f2 cb ca FR XR1 OIR ABR APR OID hlt hltI
      have TAIL : ∀ W, Fr (fun _ => False) w2 W → Hid (XR bS W (fun i => F i ∧ i < pb) bX f r ∧ At W pb 0 (.pointer (some ⟨bS, 0, none⟩)) ∧ OpAt W po o ∧ Fr (fun _ => False) w W) := fun W hW =>
        ⟨X2.out.frw hW (fun _ _ h => h), AB2.out.fr hW (fun h => h), AP2.out.fr hW (fun h => h), (F1.out.trans F2.out).trans hW⟩
      have HTL := hid TAIL
      clear TAIL
      have cb := AB2.out.c
      have ca := AP2.out.a1.c
      have cs := AP2.out.a4.c
      by_cases hs : o.s.size ≤ 12
      · have hsI : (o.s.size : Int) ≤ 12 := by omega
        have HLV := hid (level_any X2.out o.s hs o.a)
        clear hs
        go_wp2_with fail
        refine HLV.out.mono ?_
        rintro e w3 ⟨rfl, f3⟩
        have T3 := HTL.out w3 f3
        clear f3 HLV hsI cb ca cs HTL X2 AB2 AP2 X1 F1 F2 AB1 AP1
        go_wp2_with fail
        refine (iwords_any T3.out.1).mono ?_
        rintro e w4 ⟨v4, rfl, o4, n4, f4⟩
        have T4 : Hid (XR bS w4 (fun i => F i ∧ i < pb) bX f r ∧ At w4 pb 0 (.pointer (some ⟨bS, 0, none⟩)) ∧ OpAt w4 po o ∧ Fr (fun _ => False) w w4) := ⟨T3.out.1.frw f4 (fun _ _ h => h), T3.out.2.1.fr f4 (fun h => h), T3.out.2.2.1.fr f4 (fun h => h), T3.out.2.2.2.trans f4⟩
        have OWS := hid o4
        clear o4 n4 f4 T3
        obtain ⟨W, hW⟩ : ∃ W, W = wordsOf f := ⟨_, rfl⟩
        rw [← hW] at OWS HWL HWA HWZ HFP
        have HWW := hid hW
        clear hW
        have hwl := HWL.out
        have hwlI : (W.length : Int) ≤ 117 := by omega
        obtain ⟨ja, jc, hjv⟩ := OWS.out.form
        subst hjv
        go_wp2_with fail
        go_loopw [10] (fun a wr => ∃ k : Nat, k ≤ W.length ∧ a = .int .i64 k ∧ Fr (fun _ => False) w4 wr) (fun a _ => W.length - (intOf a).toNat)
        case atStart => exact ⟨0, by omega, rfl, Fr.refl _ _⟩
        case round =>
          obtain ⟨k, hk, rfl, fr⟩ := hrel
          have FR := hid fr
          have XRR := hid (T4.out.1.frw fr (fun _ _ h => h))
          have OWR := hid (OWS.out.fr fr (fun _ _ h => h))
          have ABR := hid (T4.out.2.1.fr fr (fun h => h))
          have APR := hid (T4.out.2.2.1.fr fr (fun h => h))
          have hk0 : (0 : Int) ≤ (k : Int) := by omega
          clear fr
          by_cases hlt : k < W.length
          · have hltI : (k : Int) < (W.length : Int) := by omega
            rcases OWR.out.empty with ⟨_, hn⟩ | ⟨gv, cv, hv, hgb, hgl⟩
            · rw [hn] at hlt; simp at hlt
            cases hv
            have CW := hid (OWR.out.cell rfl hlt)
            have cw := CW.out.c
            have hmem := getD_mem hlt
            have hz := HWZ.out _ hmem
            have hfp := HFP.out _ hmem
            have HLVL := hid (fun V (hV : Fr (fun _ => False) wr V) => level_any (XRR.out.frw hV (fun _ _ h => h)) _ hz o.a)
            have HFRQ := hid (fun V (hV : Fr (fun _ => False) wr V) => ifreq_any (XRR.out.frw hV (fun _ _ h => h)) (W.getD k ⟨#[]⟩))
            have HASC : Hid (∀ j, k = j + 1 → ltS (W.getD j ⟨#[]⟩) (W.getD k ⟨#[]⟩)) := fun j e => by subst e; exact asc_next HWA.out hlt
            clear hmem hz
            have hfpI : (0 : Int) < (frq f (W.getD k ⟨#[]⟩) : Int) := by omega
            clear hfp
            obtain ⟨x, hx⟩ : ∃ x, x = W.getD k ⟨#[]⟩ := ⟨_, rfl⟩
            rw [← hx] at cw CW HLVL HFRQ HASC hfpI
            clear hx
            generalize frq f x = fx at *
            by_cases hk1 : k = 0
            · subst hk1
              have cb := ABR.out.c
              have ca := APR.out.a1.c
              go_upto_region 25 with (first
                | (go_at_call 14; refine (HFRQ.out _ (Fr.refl _ _)).mono ?_; rintro e w5 ⟨rfl, hw5⟩; obtain rfl := hw5.symm)
                | fail)
              go_cut [88] (fun c wx => c = .bool false ∧ Fr (fun _ => False) wr wx)
              case first =>
                go_region_with (go_at_call 48; refine (HLVL.out _ (Fr.refl _ _).drew).mono ?_; rintro e x7 ⟨rfl, g7⟩; have G7 : Hid (Fr (fun _ => False) wr x7) := (Fr.refl (fun _ => False) wr).drew.trans g7; clear g7)
                all_goals go_wp2_with fail
                all_goals go_meet
                all_goals exact ⟨rfl, G7.out⟩
              case rest =>
                obtain ⟨rfl, fd⟩ := hcut
                have FD := hid (FR.out.trans fd)
                clear fd
                go_wp2_with fail
                exact ⟨⟨1, by omega, by go_num, FD.out⟩, by simp [intOf]; omega⟩
            · obtain ⟨j, rfl⟩ : ∃ j, k = j + 1 := ⟨k - 1, by omega⟩
              have CY := hid (OWR.out.cell rfl (j := j) (by omega))
              have cy := CY.out.c
              have hxy := HASC.out j rfl
              unfold ltS at hxy
              obtain ⟨y, hy⟩ : ∃ y, y = W.getD j ⟨#[]⟩ := ⟨_, rfl⟩
              rw [← hy] at cy CY hxy
              clear hy HASC
              have hk1I : (0 : Int) < ((j + 1 : Nat) : Int) := by omega
              have ej : (((j + 1 : Nat) : Int) - 1) = (j : Int) := by omega
              have hj0 : (0 : Int) ≤ (j : Int) := by omega
              have hjl : (j : Int) < (W.length : Int) := by omega
              obtain ⟨kk, hkk⟩ : ∃ kk, kk = j + 1 := ⟨_, rfl⟩
              rw [← hkk] at cw hlt hltI hk hk0 hk1I ej ⊢
              have HKK := hid hkk
              clear hkk hk1
              go_upto_region 21 with fail
              go_cut [71] (fun c wx => c = .bool false ∧ Fr (fun _ => False) wr wx)
              case first =>
                go_region
                all_goals go_wp2_with fail
                all_goals go_meet
                all_goals exact ⟨rfl, (Fr.refl (fun _ => False) wr).drew⟩
              case rest =>
                obtain ⟨rfl, fc⟩ := hcut
                have FC := hid fc
                clear cy cw
                have cw := (CW.out.fr fc (fun h => h)).c
                rw [← HKK.out] at cw
                have cb := (ABR.out.fr fc (fun h => h)).c
                have ca := (APR.out.fr fc (fun h => h)).a1.c
                clear fc
                go_upto_region 25 with (first
                  | (go_at_call 14; refine (HFRQ.out _ FC.out).mono ?_; rintro e w5 ⟨rfl, hw5⟩; obtain rfl := hw5.symm)
                  | fail)
                go_cut [88] (fun c wx => c = .bool false ∧ Fr (fun _ => False) wr wx)
                case first =>
                  go_region_with (go_at_call 48; refine (HLVL.out _ FC.out.drew).mono ?_; rintro e x7 ⟨rfl, g7⟩; have G7 : Hid (Fr (fun _ => False) wr x7) := FC.out.drew.trans g7; clear g7)
                  all_goals go_wp2_with fail
                  all_goals go_meet
                  all_goals exact ⟨rfl, G7.out⟩
                case rest =>
                  obtain ⟨rfl, fd⟩ := hcut
                  have FD := hid (FR.out.trans fd)
                  clear fd
                  go_wp2_with fail
                  exact ⟨⟨kk + 1, by omega, by go_num, FD.out⟩, by simp [intOf]; omega⟩
          · have hltI : ¬ (k : Int) < (W.length : Int) := by omega
            have cb := ABR.out.c
            obtain ⟨b9, hob⟩ : ∃ b, OwnS wr b (.slice ja W.length jc) (wordsOf f) := ⟨_, by rw [← HWW.out]; exact OWR.out⟩
            have HOB := hid hob
            clear hob
            go_wp2_with (first
              | (go_at_call 50; refine (found_any XRR.out.sr HOB.out).mono ?_; rintro e w6 ⟨rfl, f6⟩; have F6 := hid f6; clear f6)
              | fail)
            go_ret
            exact ⟨rfl, (T4.out.2.2.2.trans FR.out).trans F6.out⟩
      · have hsI : ¬ (o.s.size : Int) ≤ 12 := by omega
        have HLV := hid (long_any X2.out o.s (by omega))
        clear hs
        go_wp2_with fail
        refine HLV.out.mono ?_
        rintro e w3 ⟨rfl, f3⟩
        have T3 := HTL.out w3 f3
        clear f3 HLV hsI cb ca cs HTL X2 AB2 AP2 X1 F1 F2 AB1 AP1
        go_wp2_with fail
        refine (iwords_any T3.out.1).mono ?_
        rintro e w4 ⟨v4, rfl, o4, n4, f4⟩
        have T4 : Hid (XR bS w4 (fun i => F i ∧ i < pb) bX f r ∧ At w4 pb 0 (.pointer (some ⟨bS, 0, none⟩)) ∧ OpAt w4 po o ∧ Fr (fun _ => False) w w4) := ⟨T3.out.1.frw f4 (fun _ _ h => h), T3.out.2.1.fr f4 (fun h => h), T3.out.2.2.1.fr f4 (fun h => h), T3.out.2.2.2.trans f4⟩
        have OWS := hid o4
        clear o4 n4 f4 T3
        obtain ⟨W, hW⟩ : ∃ W, W = wordsOf f := ⟨_, rfl⟩
        rw [← hW] at OWS HWL HWA HWZ HFP
        have HWW := hid hW
        clear hW
        have hwl := HWL.out
        have hwlI : (W.length : Int) ≤ 117 := by omega
        obtain ⟨ja, jc, hjv⟩ := OWS.out.form
        subst hjv
        go_wp2_with fail
        go_loopw [10] (fun a wr => ∃ k : Nat, k ≤ W.length ∧ a = .int .i64 k ∧ Fr (fun _ => False) w4 wr) (fun a _ => W.length - (intOf a).toNat)
        case atStart => exact ⟨0, by omega, rfl, Fr.refl _ _⟩
        case round =>
          obtain ⟨k, hk, rfl, fr⟩ := hrel
          have FR := hid fr
          have XRR := hid (T4.out.1.frw fr (fun _ _ h => h))
          have OWR := hid (OWS.out.fr fr (fun _ _ h => h))
          have ABR := hid (T4.out.2.1.fr fr (fun h => h))
          have APR := hid (T4.out.2.2.1.fr fr (fun h => h))
          have hk0 : (0 : Int) ≤ (k : Int) := by omega
          clear fr
          by_cases hlt : k < W.length
          · have hltI : (k : Int) < (W.length : Int) := by omega
            rcases OWR.out.empty with ⟨_, hn⟩ | ⟨gv, cv, hv, hgb, hgl⟩
            · rw [hn] at hlt; simp at hlt
            cases hv
            have CW := hid (OWR.out.cell rfl hlt)
            have cw := CW.out.c
            have hmem := getD_mem hlt
            have hz := HWZ.out _ hmem
            have hfp := HFP.out _ hmem
            have HLVL := hid (fun V (hV : Fr (fun _ => False) wr V) => level_any (XRR.out.frw hV (fun _ _ h => h)) _ hz o.a)
            have HFRQ := hid (fun V (hV : Fr (fun _ => False) wr V) => ifreq_any (XRR.out.frw hV (fun _ _ h => h)) (W.getD k ⟨#[]⟩))
            have HASC : Hid (∀ j, k = j + 1 → ltS (W.getD j ⟨#[]⟩) (W.getD k ⟨#[]⟩)) := fun j e => by subst e; exact asc_next HWA.out hlt
            clear hmem hz
            have hfpI : (0 : Int) < (frq f (W.getD k ⟨#[]⟩) : Int) := by omega
            clear hfp
            obtain ⟨x, hx⟩ : ∃ x, x = W.getD k ⟨#[]⟩ := ⟨_, rfl⟩
            rw [← hx] at cw CW HLVL HFRQ HASC hfpI
            clear hx
            generalize frq f x = fx at *
            by_cases hk1 : k = 0
            · subst hk1
              have cb := ABR.out.c
              have ca := APR.out.a1.c
              go_upto_region 25 with (first
                | (go_at_call 14; refine (HFRQ.out _ (Fr.refl _ _)).mono ?_; rintro e w5 ⟨rfl, hw5⟩; obtain rfl := hw5.symm)
                | fail)
              go_cut [88] (fun c wx => c = .bool false ∧ Fr (fun _ => False) wr wx)
              case first =>
                go_region_with (go_at_call 48; refine (HLVL.out _ (Fr.refl _ _).drew).mono ?_; rintro e x7 ⟨rfl, g7⟩; have G7 : Hid (Fr (fun _ => False) wr x7) := (Fr.refl (fun _ => False) wr).drew.trans g7; clear g7)
                all_goals go_wp2_with fail
                all_goals go_meet
                all_goals exact ⟨rfl, G7.out⟩
              case rest =>
                obtain ⟨rfl, fd⟩ := hcut
                have FD := hid (FR.out.trans fd)
                clear fd
                go_wp2_with fail
                exact ⟨⟨1, by omega, by go_num, FD.out⟩, by simp [intOf]; omega⟩
            · obtain ⟨j, rfl⟩ : ∃ j, k = j + 1 := ⟨k - 1, by omega⟩
              have CY := hid (OWR.out.cell rfl (j := j) (by omega))
              have cy := CY.out.c
              have hxy := HASC.out j rfl
              unfold ltS at hxy
              obtain ⟨y, hy⟩ : ∃ y, y = W.getD j ⟨#[]⟩ := ⟨_, rfl⟩
              rw [← hy] at cy CY hxy
              clear hy HASC
              have hk1I : (0 : Int) < ((j + 1 : Nat) : Int) := by omega
              have ej : (((j + 1 : Nat) : Int) - 1) = (j : Int) := by omega
              have hj0 : (0 : Int) ≤ (j : Int) := by omega
              have hjl : (j : Int) < (W.length : Int) := by omega
              obtain ⟨kk, hkk⟩ : ∃ kk, kk = j + 1 := ⟨_, rfl⟩
              rw [← hkk] at cw hlt hltI hk hk0 hk1I ej ⊢
              have HKK := hid hkk
              clear hkk hk1
              go_upto_region 21 with fail
              go_cut [71] (fun c wx => c = .bool false ∧ Fr (fun _ => False) wr wx)
              case first =>
                go_region
                all_goals go_wp2_with fail
                all_goals go_meet
                all_goals exact ⟨rfl, (Fr.refl (fun _ => False) wr).drew⟩
              case rest =>
                obtain ⟨rfl, fc⟩ := hcut
                have FC := hid fc
                clear cy cw
                have cw := (CW.out.fr fc (fun h => h)).c
                rw [← HKK.out] at cw
                have cb := (ABR.out.fr fc (fun h => h)).c
                have ca := (APR.out.fr fc (fun h => h)).a1.c
                clear fc
                go_upto_region 25 with (first
                  | (go_at_call 14; refine (HFRQ.out _ FC.out).mono ?_; rintro e w5 ⟨rfl, hw5⟩; obtain rfl := hw5.symm)
                  | fail)
                go_cut [88] (fun c wx => c = .bool false ∧ Fr (fun _ => False) wr wx)
                case first =>
                  go_region_with (go_at_call 48; refine (HLVL.out _ FC.out.drew).mono ?_; rintro e x7 ⟨rfl, g7⟩; have G7 : Hid (Fr (fun _ => False) wr x7) := FC.out.drew.trans g7; clear g7)
                  all_goals go_wp2_with fail
                  all_goals go_meet
                  all_goals exact ⟨rfl, G7.out⟩
                case rest =>
                  obtain ⟨rfl, fd⟩ := hcut
                  have FD := hid (FR.out.trans fd)
                  clear fd
                  go_wp2_with fail
                  exact ⟨⟨kk + 1, by omega, by go_num, FD.out⟩, by simp [intOf]; omega⟩
          · have hltI : ¬ (k : Int) < (W.length : Int) := by omega
            have cb := ABR.out.c
            obtain ⟨b9, hob⟩ : ∃ b, OwnS wr b (.slice ja W.length jc) (wordsOf f) := ⟨_, by rw [← HWW.out]; exact OWR.out⟩
            have HOB := hid hob
            clear hob
            go_wp2_with (first
              | (go_at_call 50; refine (found_any XRR.out.sr HOB.out).mono ?_; rintro e w6 ⟨rfl, f6⟩; have F6 := hid f6; clear f6)
              | fail)
            go_ret
            exact ⟨rfl, (T4.out.2.2.2.trans FR.out).trans F6.out⟩

end Go.Proofs.Qxb6500449a
