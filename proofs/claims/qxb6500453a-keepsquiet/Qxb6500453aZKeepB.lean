/- The walk of keeps. -/
import Derived.Test.Qxb6500453aZHeld
namespace Go.Proofs.Qxb6500453a
open Go Go.RowKit
set_option maxRecDepth 100000
set_option maxHeartbeats 20000000
set_option linter.unusedSimpArgs false
set_option linter.unusedVariables false

theorem keepsB_any {w : World} {b off len cap : Nat} (f : Nat → Stp) (hb : b < w.heap.size) (hs : ∀ i, i < len → StpAt w b (off + i * 6) (f i)) (hlen : len ≤ 9223372036854775807) (quiet : Bool) :
    Calls Try.prog 9 #[.slice (some ⟨b, off, none⟩) len cap, .bool quiet] w fun e w' => e = .returned (.int .i64 (-1)) ∧ Fr (fun _ => False) w w' := by
  have hlen' : (len : Int) ≤ 9223372036854775807 := by omega
  have HS := hid hs
  clear hs
  go_enter Try.func9, Try.ntmps9
  go_wp2_with fail
  refine (ground_any _).mono ?_
  rintro e w1 ⟨bT, bC, bR, rfl, hr1, hn1, hf1⟩
  have R1 := hid hr1
  have N1 := hid hn1
  have F1 := hid hf1
  clear hr1 hn1 hf1
  go_wp2_with fail
  have FA := hid (F1.out.alloc (.cells #[.pointer (some ⟨bT, 0, none⟩)] 28))
  have PA := hid (At.new w1 #[.pointer (some ⟨bT, 0, none⟩)] 28 (o := 0) rfl)
  have R2 := hid (R1.out.fr ((Fr.refl (fun _ => False) w1).alloc (.cells #[.pointer (some ⟨bT, 0, none⟩)] 28)) (fun h => h) (fun h => h) (fun h => h))
  have HZ : Hid (w.heap.size ≤ w1.heap.size ∧ ∀ i, S3 bT bC bR i → i ≠ w1.heap.size) := by
    refine ⟨F1.out.size, fun i c => ?_⟩
    have := R1.out.lt
    rcases c with rfl | rfl | rfl
    · exact Nat.ne_of_lt this.1
    · exact Nat.ne_of_lt this.2.1
    · exact Nat.ne_of_lt this.2.2
  clear R1 F1
  generalize w1.alloc (.cells #[.pointer (some ⟨bT, 0, none⟩)] 28) = wa at *
  generalize w1.heap.size = pB at *
  refine (lnew_any R2.out).mono ?_
  rintro e w2 ⟨lb, rfl, hT, hC, hR, lr, hl, f2⟩
  have HQ : Hid (lb.T = bT ∧ lb.C = bC ∧ lb.R = bR) := ⟨hT, hC, hR⟩
  have LR2 := hid lr
  have HL2 := hid hl
  have F2 := hid f2
  clear hT hC hR lr hl f2
  go_wp2_with fail
  refine (fresh_any _).mono ?_
  rintro e w3 ⟨P, hP, rfl, gg, f3⟩
  have HB := hid (kp_new FA.out PA.out HZ.out.1 (fun i c => ⟨N1.out i c, HZ.out.2 i c⟩) HQ.out.1 HQ.out.2.1 HQ.out.2.2 LR2.out HL2.out F2.out hP gg f3)
  clear hP gg f3 FA PA HZ N1 R2 HQ LR2 HL2 F2
  go_wp2_with fail
  go_loopw [6, 7, 8] (fun x gv i wr => ∃ (k : Nat) (s : Led) (lb : LB) (P : Nat) (v : Value) (l : List Int), k ≤ len ∧ x = .pointer (some ⟨lb.D, 0, none⟩) ∧ gv = .pointer (some ⟨P, 0, none⟩) ∧ i = .int .i64 k ∧ KP w wr lb P pB s v l) (fun _ _ i _ => len - (intOf i).toNat)
  case atStart => exact ⟨0, led0 L.init, lb, P, _, [], by omega, rfl, rfl, rfl, HB.out⟩
  case round =>
    clear HB
    obtain ⟨k, s, lb, P, v, l, hk, rfl, rfl, rfl, hB⟩ := hrel
    have HB := hid hB
    have hk0 : (0 : Int) ≤ (k : Int) := by omega
    by_cases hlt : k < len
    · have hltI : (k : Int) < (len : Int) := by omega
      by_cases hmx : (k : Int) < 4398046511104
      · have hst := (HS.out k hlt).fr hB.f
        obtain ⟨c0, c1, c2, c3, c4, c5⟩ := hst
        have HLK : Hid (l.length ≤ 4398046511104) := by have := hB.cn; have := L.cnt_le s.lk; unfold Hid; omega
        clear hB
        generalize f k = o at *
        go_upto_region 8 with fail
        have HW := hid (HB.out.quiet ((Fr.refl (fun _ => False) wr).alloc (.cells #[.int .i64 o.kind, .int .i64 o.a, .int .i64 o.b, .int .i64 o.c, .string o.s, .string o.t] 49)))
        have HPO := hid (StpAt.new wr o)
        have hzO : wr.heap.size < (wr.alloc (.cells #[.int .i64 o.kind, .int .i64 o.a, .int .i64 o.b, .int .i64 o.c, .string o.s, .string o.t] 49)).heap.size := by simp
        have HOL : Hid (∀ i, (SL lb i ∨ i = P ∨ v.ownBlock = some i ∨ i = pB) → i ≠ wr.heap.size) := by
          rintro i (c | c | c | c)
          · exact Nat.ne_of_lt (HB.out.r.lt i c)
          · rw [c]; exact Nat.ne_of_lt HB.out.g.lt
          · exact Nat.ne_of_lt (HB.out.ow.lt c).2
          · rw [c]; exact Nat.ne_of_lt HB.out.pb.lt
        have HWO : Hid (w.heap.size ≤ wr.heap.size) := HB.out.f.size
        clear c0 c1 c2 c3 c4 c5 HB
        generalize wr.alloc (.cells #[.int .i64 o.kind, .int .i64 o.a, .int .i64 o.b, .int .i64 o.c, .string o.s, .string o.t] 49) = W at *
        generalize wr.heap.size = pO at *
        obtain ⟨d0, d1, d2, d3, d4, d5⟩ := HPO.out
        simp only [Nat.zero_add] at d1 d2 d3 d4 d5
        have hp := HW.out.pb.c
        have HKL : Hid (k < len ∧ (k : Int) < 4398046511104 ∧ (0 : Int) ≤ (k : Int)) := ⟨hlt, hmx, hk0⟩
        clear hlt hltI hmx hk0
        by_cases h1 : o.kind = 1
        · have h1b : (o.kind == 1) = true := beq_iff_eq.2 h1
          clear h1
          go_wp2_with fail
          refine (ground_any _).mono ?_
          rintro e w1 ⟨bT, bC, bR, rfl, hr1, hn1, hf1⟩
          have N1 := hid hn1
          have PB1 := hid (HW.out.pb.fr hf1 (fun h => h))
          have hp1 := PB1.out.c
          have xp1 := PB1.out.f
          have np : ∀ i, S3 bT bC bR i → i ≠ pB := fun i c => by have := hn1 i c; have := HW.out.pb.lt; omega
          have NP := hid np
          have fs : Fr (fun i => i = pB) w1 (w1.setCell ⟨pB, 0, none⟩ (.pointer (some ⟨bT, 0, none⟩))) := in_fr _ _ _ (Fr.refl _ _)
          have R2 := hid (hr1.fr fs (np _ (.inl rfl)) (np _ (.inr (.inl rfl))) (np _ (.inr (.inr rfl))))
          have PA := hid (PB1.out.same (.pointer (some ⟨bT, 0, none⟩)))
          have FA : Hid (Fr (fun _ => False) w (w1.setCell ⟨pB, 0, none⟩ (.pointer (some ⟨bT, 0, none⟩)))) := (HW.out.f.trans hf1).then fs (fun i hi e => by have := HW.out.pn; omega)
          have HN : Hid (∀ i, S3 bT bC bR i → w.heap.size ≤ i) := fun i c => by have := hn1 i c; have := HW.out.f.size; omega
          have PN := hid HW.out.pn
          clear hr1 hn1 hf1 np fs PB1 N1 hp HW
          go_upto_region 25 with fail
          clear hp1 xp1
          generalize w1.setCell ⟨pB, 0, none⟩ (.pointer (some ⟨bT, 0, none⟩)) = wa at *
          have hp := PA.out.c
          go_wp2_with fail
          refine (lnew_any R2.out).mono ?_
          rintro e w2 ⟨lb, rfl, hT, hC, hR, lr, hl, f2⟩
          have HQ : Hid (lb.T = bT ∧ lb.C = bC ∧ lb.R = bR) := ⟨hT, hC, hR⟩
          have LR2 := hid lr
          have HL2 := hid hl
          have F2 := hid f2
          clear hT hC hR lr hl f2
          go_wp2_with fail
          refine (fresh_any _).mono ?_
          rintro e w3 ⟨P, hP, rfl, gg, f3⟩
          have HB5 := hid (kp_new FA.out PA.out PN.out (fun i c => ⟨HN.out i c, NP.out i c⟩) HQ.out.1 HQ.out.2.1 HQ.out.2.2 LR2.out HL2.out F2.out hP gg f3)
          clear hP gg f3 FA PA PN HN NP R2 HQ LR2 HL2 F2 hp
          obtain ⟨ss, hss⟩ : ∃ ss : Led, ss = led0 L.init := ⟨_, rfl⟩
          rw [← hss] at HB5
          clear hss
          have hp := HB5.out.pb.c
          have ch := HB5.out.g.gh.c
          have hcn : (0 : Int) = (ss.lk.cnt : Int) := by have := HB5.out.cn; simp at this; omega
          go_upto_region 36 with fail
          go_region_held3 (fun W' => W'.cell? ⟨pB, 0, none⟩ = some (.pointer (some ⟨lb.T, 0, none⟩)) ∧ W'.cell? ⟨P, 9, none⟩ = some (.slice none 0 0)) (go_keep) (first | (go_at_call 30; refine (held_any HB5.out.r.rt.drew).mono ?_; rintro e z ⟨rfl, hz⟩; obtain rfl := hz.symm))
          go_upto_region 38 with fail
          have HB6 := hid (HB5.out.quiet ((Fr.refl (fun _ => False) w3).drew))
          clear hp ch HB5 hcn
          generalize w3.drew = w6 at *
          go_wp2_with fail
          go_loopw [18, 19] (fun tv i wi => ∃ j : Nat, j ≤ 4 ∧ tv = .string (L.bs (opL ss.lk j)) ∧ i = .int .i64 (j : Int) ∧ wi = w6) (fun _ i _ => 4 - (intOf i).toNat)
          case atStart => exact ⟨0, by omega, rfl, rfl, rfl⟩
          case round =>
            as_aux_lemma =>
              obtain ⟨j, hj, rfl, rfl, hwr⟩ := hrel
              obtain rfl := hwr.symm
              have hj0 : (0 : Int) ≤ (j : Int) := by omega
              have hsz : (L.bs (opL ss.lk j)).size ≤ 9 := by rw [Lbs_size, opL_len]; omega
              by_cases hjl : j < 4
              · have hjI : (j : Int) < 4 := by omega
                have cm := (HB6.out.g.gm j hjl).c
                rcases ho : ss.lk.op j with _ | _
                · rw [ho] at cm
                  have HE : Hid (L.bs (opL ss.lk (j + 1)) = L.bs (opL ss.lk j) ++ ⟨#[48]⟩) := by
                    show L.bs (opL ss.lk j ++ [L.openD ss.lk j]) = _
                    rw [← L.bs_append]
                    unfold L.openD
                    rw [ho]
                    rfl
                  clear ho
                  go_wp2_with fail
                  exact ⟨⟨j + 1, by omega, by rw [HE.out], by go_num, by first | rfl | trivial⟩, by simp [intOf]; omega⟩
                · rw [ho] at cm
                  have HE : Hid (L.bs (opL ss.lk (j + 1)) = L.bs (opL ss.lk j) ++ ⟨#[49]⟩) := by
                    show L.bs (opL ss.lk j ++ [L.openD ss.lk j]) = _
                    rw [← L.bs_append]
                    unfold L.openD
                    rw [ho]
                    rfl
                  clear ho
                  go_wp2_with fail
                  exact ⟨⟨j + 1, by omega, by rw [HE.out], by go_num, by first | rfl | trivial⟩, by simp [intOf]; omega⟩
              · have hjI : ¬ (j : Int) < 4 := by omega
                obtain rfl : j = 4 := by omega
                have hp := HB6.out.pb.c
                go_upto_region 45 with fail
                go_upto_region 46 with (first | (go_at_call 25; refine (show_any HB6.out.r.rt).mono ?_; rintro e w7 ⟨rfl, hf7⟩) | fail)
                have HB7 := hid (HB6.out.quiet hf7)
                clear hf7 hp HB6
                have hsh := show_open ss.lk
                have hrl : (shR ss.lk).length ≤ 100 := by have := HB7.out.r.rt.ok.len; simp [shR]; omega
                have hcut := cut_head (opL ss.lk 4) (shR ss.lk)
                rw [← hsh] at hcut
                have hz1 : (L.bs (opL ss.lk 4)).size = 9 := by rw [Lbs_size, opL_len]
                have hz2 : (L.bs (L.showL ss.lk)).size = 9 + (shR ss.lk).length := by rw [Lbs_size, hsh]; simp [opL_len]
                have hz4 : (L.bs (L.showL ss.lk)).size ≤ 200 := by omega
                rw [show ((opL ss.lk 4).length : Int) = 9 by rw [opL_len]; rfl] at hcut
                clear hsh hsz
                generalize (shR ss.lk).length = lr at *
                generalize hOP : L.bs (opL ss.lk 4) = sop at *
                clear hOP
                generalize hSH : L.bs (L.showL ss.lk) = ssh at *
                have HSH := hid hSH
                clear hSH hj hj0 hjl hjI
                go_upto_region 48 with fail
                clear hcut hz1 hz2 hrl
                rw [← HSH.out]
                rw [← HSH.out] at hz4
                clear HSH
                cases quiet
                · go_wp2_with fail
                  refine (audit_any HB7.out.r).mono ?_
                  rintro e z ⟨rfl, hz⟩
                  obtain rfl := hz.symm
                  go_wp2_with fail
                  refine (books_any HB7.out.g HB7.out.r.bl HB7.out.r.ul).mono ?_
                  rintro e w8 ⟨rfl, hf8⟩
                  have HB8 := hid (HB7.out.quiet hf8)
                  have hp := HB8.out.pb.c
                  have hz5 : (L.bs (bookL ss)).size ≤ 200 := by rw [Lbs_size]; exact bookL_len _
                  clear hf8 HB7
                  go_wp2_with fail
                  refine (show_any HB8.out.r.rt).mono ?_
                  rintro e w9 ⟨rfl, hf9⟩
                  have HB9 := hid (HB8.out.quiet hf9)
                  clear hf9 HB8 hp
                  go_wp2_with fail
                  refine (lshow_any HB9.out.r).mono ?_
                  rintro e w10 ⟨rfl, hf10⟩
                  have HB10 := hid (HB9.out.quiet hf10)
                  clear hf10 HB9
                  rw [showD_book]
                  go_upto_region 6 with fail
                  clear hz4 hz5
                  obtain ⟨hlt, hmx, hk0⟩ := HKL.out
                  go_wp2_with fail
                  exact ⟨⟨k + 1, ss, lb, P, _, [], by omega, rfl, rfl, by go_num, HB10.out⟩, by simp [intOf]; omega⟩
                · clear hz4
                  obtain ⟨hlt, hmx, hk0⟩ := HKL.out
                  go_wp2_with fail
                  exact ⟨⟨k + 1, ss, lb, P, _, [], by omega, rfl, rfl, by go_num, HB7.out⟩, by simp [intOf]; omega⟩
        by_cases h9 : o.kind = 9
        · have h1b : (o.kind == 1) = false := beq_eq_false_iff_ne.2 h1
          have h9b : (o.kind == 9) = true := beq_iff_eq.2 h9
          clear h1 h9
          obtain ⟨a7, cap7, hv, _⟩ := HW.out.ow.form2
          subst hv
          go_upto_region 29 with fail
          have FA := hid ((Fr.refl (fun _ => False) W).alloc (.cells #[.int .i64 0, .int .i64 0, .int .i64 0, .string ⟨#[]⟩] 51))
          have BX := hid (Box.new W)
          have HWA := hid (HW.out.quiet FA.out)
          have HPA := hid (HPO.out.fr FA.out)
          have hza : W.heap.size < (W.alloc (.cells #[.int .i64 0, .int .i64 0, .int .i64 0, .string ⟨#[]⟩] 51)).heap.size := by simp
          have NA : Hid (∀ i, (SL lb i ∨ i = P ∨ (Value.slice a7 l.length cap7).ownBlock = some i ∨ i = pB) → i ≠ W.heap.size) := by
            rintro i (c | c | c | c)
            · exact Nat.ne_of_lt (HW.out.r.lt i c)
            · rw [c]; exact Nat.ne_of_lt HW.out.g.lt
            · exact Nat.ne_of_lt (HW.out.ow.lt c).2
            · rw [c]; exact Nat.ne_of_lt HW.out.pb.lt
          have hpa : pO ≠ W.heap.size := Nat.ne_of_lt hzO
          clear d0 d1 d2 d3 d4 d5 hp HPO
          generalize W.alloc (.cells #[.int .i64 0, .int .i64 0, .int .i64 0, .string ⟨#[]⟩] 51) = wa at *
          obtain ⟨pA, hpA⟩ : ∃ pA, pA = W.heap.size := ⟨_, rfl⟩
          rw [← hpA] at hza NA BX hpa ⊢
          have HPQ := hid hpA
          clear hpA
          have hp := HWA.out.pb.c
          have cv := HWA.out.g.gh.c
          have nPB : P ≠ pB := HWA.out.gp.2
          have nPO : P ≠ pO := HOL.out P (.inr (.inl rfl))
          have nPA : P ≠ pA := NA.out P (.inr (.inl rfl))
          have nBO : pB ≠ pO := HOL.out pB (.inr (.inr (.inr rfl)))
          have nBA : pB ≠ pA := NA.out pB (.inr (.inr (.inr rfl)))
          have nBP : pB ≠ P := fun e => nPB e.symm
          have nOP : pO ≠ P := fun e => nPO e.symm
          obtain ⟨d0, d1, d2, d3, d4, d5⟩ := HPA.out
          simp only [Nat.zero_add] at d1 d2 d3 d4 d5
          have HG := grab_any HWA.out.r.rt.drew (HWA.out.ow.fr ((Fr.refl (fun _ => False) wa).drew) (fun _ _ h => h)) (fun q hq c => (HWA.out.os q hq).1 (.inr c)) HWA.out.f.size HLK.out o.a
          simp only [ansV] at HG
          have HG := hid HG
          refine wp_region_held_drew (S := (fun W' => W'.cell? ⟨pB, 0, none⟩ = some (.pointer (some ⟨lb.T, 0, none⟩)) ∧ W'.cell? ⟨pO, 1, none⟩ = some (.int .i64 o.a))) (by kernel_rfl) ?_ (fun hHeld => ?_)
          · (try dsimp only)
            go_keep
          refine wpAnyH_take (i := 0) (v := ?_) rfl (by kernel_rfl) (by kernel_rfl) (by kernel_rfl) (fun _ _ _ h => h) (Or.inl ⟨by rfl, ?_⟩) (by assumption) ?_
          rotate_left
          · intro W hSw
            (try dsimp only at hSw)
            go_simp
            (try with_reducible rfl)
          try simp only [Act.put, List.setIfInBounds_toArray, List.set_cons_zero, List.set_cons_succ]
          refine wpAnyH_take (i := 1) (v := ?_) rfl (by kernel_rfl) (by kernel_rfl) (by kernel_rfl) (fun _ _ _ h => h) (Or.inl ⟨by rfl, ?_⟩) (by assumption) ?_
          rotate_left
          · intro W hSw
            (try dsimp only at hSw)
            go_simp
            (try with_reducible rfl)
          try simp only [Act.put, List.setIfInBounds_toArray, List.set_cons_zero, List.set_cons_succ]
          refine wpAnyH_take (i := 2) (v := ?_) rfl (by kernel_rfl) (by kernel_rfl) (by kernel_rfl) (fun _ _ _ h => h) (Or.inl ⟨by rfl, ?_⟩) (by assumption) ?_
          rotate_left
          · intro W hSw
            (try dsimp only at hSw)
            go_simp
            (try with_reducible rfl)
          try simp only [Act.put, List.setIfInBounds_toArray, List.set_cons_zero, List.set_cons_succ]
          refine wpAnyH_take (i := 3) (v := ?_) rfl (by kernel_rfl) (by kernel_rfl) (by kernel_rfl) (fun _ _ _ h => h) (Or.inl ⟨by rfl, ?_⟩) (by assumption) ?_
          rotate_left
          · intro W hSw
            (try dsimp only at hSw)
            go_simp
            (try with_reducible rfl)
          try simp only [Act.put, List.setIfInBounds_toArray, List.set_cons_zero, List.set_cons_succ]
          refine wpAnyH_take (i := 4) (v := ?_) rfl (by kernel_rfl) (by kernel_rfl) (by kernel_rfl) (fun _ _ _ h => h) (Or.inl ⟨by rfl, ?_⟩) (by assumption) ?_
          rotate_left
          · intro W hSw
            (try dsimp only at hSw)
            go_simp
            (try with_reducible rfl)
          try simp only [Act.put, List.setIfInBounds_toArray, List.set_cons_zero, List.set_cons_succ]
          refine wpAnyH_take (i := 6) (v := ?_) rfl (by kernel_rfl) (by kernel_rfl) (by kernel_rfl) (fun _ _ _ h => h) (Or.inl ⟨by rfl, ?_⟩) (by assumption) ?_
          rotate_left
          · intro W hSw
            (try dsimp only at hSw)
            go_simp
            (try with_reducible rfl)
          try simp only [Act.put, List.setIfInBounds_toArray, List.set_cons_zero, List.set_cons_succ]
          refine wpAnyH_take (i := 7) (v := ?_) rfl (by kernel_rfl) (by kernel_rfl) (by kernel_rfl) (fun _ _ _ h => h) (Or.inl ⟨by rfl, ?_⟩) (by assumption) ?_
          rotate_left
          · intro W hSw
            (try dsimp only at hSw)
            go_simp
            (try with_reducible rfl)
          try simp only [Act.put, List.setIfInBounds_toArray, List.set_cons_zero, List.set_cons_succ]
          refine wpAnyH_ready (rs := [5]) (by kernel_rfl) (by simp) ?_
          refine AllReadyH.cons rfl (fun K hK => ?_) AllReadyH.nil
          go_simp
          refine hK.out _ _ ?_ (fun hHeld => ?_)
          · (try dsimp only)
            go_keep
          clear hK K
          try simp only [Act.put, List.setIfInBounds_toArray, List.set_cons_zero, List.set_cons_succ]
          refine wpAnyH_ready (rs := [8]) (by kernel_rfl) (by simp) ?_
          refine AllReadyH.cons rfl (fun K hK => ?_) AllReadyH.nil
          go_simp
          refine HG.out.mono ?_
          rintro e w4 ⟨v', rfl, hr4, ow4, ho4, hf4⟩
          obtain ⟨b7, cp7, hv7, _⟩ := ow4.form2
          subst hv7
          have n4 : ∀ i, (S3 lb.T lb.C lb.R i ∨ (Value.slice a7 l.length cap7).ownBlock = some i) → i ≠ pO := by
            rintro i (c | c)
            · exact HOL.out i (.inl (.inr c))
            · exact HOL.out i (.inr (.inr (.inl c)))
          have n5 : ∀ i, (S3 lb.T lb.C lb.R i ∨ (Value.slice a7 l.length cap7).ownBlock = some i) → i ≠ pA := by
            rintro i (c | c)
            · exact NA.out i (.inl (.inr c))
            · exact NA.out i (.inr (.inr (.inl c)))
          have n6 : ∀ i, (S3 lb.T lb.C lb.R i ∨ (Value.slice a7 l.length cap7).ownBlock = some i) → i ≠ pB := by
            rintro i (c | c)
            · exact (HWA.out.lo i (.inr c)).2.1
            · exact (HWA.out.os i c).2.2
          have n7 : ∀ i, (S3 lb.T lb.C lb.R i ∨ (Value.slice a7 l.length cap7).ownBlock = some i) → i ≠ P := by
            rintro i (c | c)
            · exact (HWA.out.lo i (.inr c)).2.2
            · exact (HWA.out.os i c).2.1
          have F4 : Hid (Fr (fun i => S3 lb.T lb.C lb.R i ∨ (Value.slice a7 l.length cap7).ownBlock = some i) wa w4) := ((Fr.refl (fun i => S3 lb.T lb.C lb.R i ∨ (Value.slice a7 l.length cap7).ownBlock = some i) wa).drew).trans hf4
          have HP4 := hid (HPA.out.frS F4.out (fun c => n4 _ c rfl))
          have B4 := hid (BX.out.fr F4.out (fun c => n5 _ c rfl))
          have G4 := hid (HWA.out.g.fr F4.out (fun c => n7 _ c rfl))
          have r4 := HWA.out.r.lock2 hr4 F4.out (fun i c d => by
            rcases d with d | d
            · exact HWA.out.r.lv.ok.apart i c d
            · exact (HWA.out.os i d).1 (.inl c))
          have R4 := hid r4
          have O4 := hid ow4
          have HO4 := hid ho4
          have z0 : w4.cell? ⟨pB, 0, none⟩ = some (.pointer (some ⟨lb.T, 0, none⟩)) := cellFr F4.out (fun c => n6 _ c rfl) hp
          have z1 : w4.cell? ⟨pO, 1, none⟩ = some (.int .i64 o.a) := cellFr F4.out (fun c => n4 _ c rfl) d1
          have hz4 : pO < w4.heap.size := by have := F4.out.size; have := FA.out.size; omega
          clear hr4 hf4 n4 n5 n6 n7 r4 ow4 ho4 HG d0 d1 d2 d3 d4 d5 hp cv
          have g0 := B4.out.a0.c
          have g1 := B4.out.a1.c
          have g2 := B4.out.a2.c
          have g3 := B4.out.a3.c
          have x0 := B4.out.a0.f
          have x1 := B4.out.a1.f
          have x2 := B4.out.a2.f
          have x3 := B4.out.a3.f
          have g9 := G4.out.gh.c
          have x9 := G4.out.gh.f
          go_wp2_with fail
          refine hK.out _ _ ?_ (fun hHeld => ?_)
          · (try dsimp only)
            go_keep
          clear hK K
          try simp only [Act.put, List.setIfInBounds_toArray, List.set_cons_zero, List.set_cons_succ]
          refine wpAnyH_take (i := 9) (v := ?_) rfl (by kernel_rfl) (by kernel_rfl) (by kernel_rfl) (fun _ _ _ h => h) (Or.inl ⟨by rfl, ?_⟩) (by assumption) ?_
          rotate_left
          · intro W hSw
            (try dsimp only at hSw)
            go_simp
            (try with_reducible rfl)
          try simp only [Act.put, List.setIfInBounds_toArray, List.set_cons_zero, List.set_cons_succ]
          refine wpAnyH_take (i := 10) (v := ?_) rfl (by kernel_rfl) (by kernel_rfl) (by kernel_rfl) (fun _ _ _ h => h) (Or.inl ⟨by rfl, ?_⟩) (by assumption) ?_
          rotate_left
          · intro W hSw
            (try dsimp only at hSw)
            go_simp
            (try with_reducible rfl)
          try simp only [Act.put, List.setIfInBounds_toArray, List.set_cons_zero, List.set_cons_succ]
          refine wpAnyH_take (i := 11) (v := ?_) rfl (by kernel_rfl) (by kernel_rfl) (by kernel_rfl) (fun _ _ _ h => h) (Or.inl ⟨by rfl, ?_⟩) (by assumption) ?_
          rotate_left
          · intro W hSw
            (try dsimp only at hSw)
            go_simp
            (try with_reducible rfl)
          try simp only [Act.put, List.setIfInBounds_toArray, List.set_cons_zero, List.set_cons_succ]
          refine wpAnyH_take (i := 12) (v := ?_) rfl (by kernel_rfl) (by kernel_rfl) (by kernel_rfl) (fun _ _ _ h => h) (Or.inl ⟨by rfl, ?_⟩) (by assumption) ?_
          rotate_left
          · intro W hSw
            (try dsimp only at hSw)
            go_simp
            (try with_reducible rfl)
          try simp only [Act.put, List.setIfInBounds_toArray, List.set_cons_zero, List.set_cons_succ]
          refine wpAnyH_take (i := 13) (v := ?_) rfl (by kernel_rfl) (by kernel_rfl) (by kernel_rfl) (fun _ _ _ h => h) (Or.inl ⟨by rfl, ?_⟩) (by assumption) ?_
          rotate_left
          · intro W hSw
            (try dsimp only at hSw)
            go_simp
            (try with_reducible rfl)
          try simp only [Act.put, List.setIfInBounds_toArray, List.set_cons_zero, List.set_cons_succ]
          refine wpAnyH_ready (rs := [14]) (by kernel_rfl) (by simp) ?_
          refine AllReadyH.cons rfl (fun K hK => ?_) AllReadyH.nil
          go_simp
          refine hK.out _ _ ?_ (fun hHeld => ?_)
          · (try dsimp only)
            go_keep
          clear hK K
          try simp only [Act.put, List.setIfInBounds_toArray, List.set_cons_zero, List.set_cons_succ]
          refine wpAnyH_ready (rs := [15]) (by kernel_rfl) (by simp) ?_
          refine AllReadyH.cons rfl (fun K hK => ?_) AllReadyH.nil
          go_simp
          refine hK.out _ _ ?_ (fun hHeld => ?_)
          · (try dsimp only)
            exact ⟨cellFr (in_fr pA _ _ (in_fr pA _ _ (in_fr pA _ _ (in_fr pA _ _ (Fr.refl _ _))))) nBA hHeld.1, cellFr (in_fr pA _ _ (in_fr pA _ _ (in_fr pA _ _ (in_fr pA _ _ (Fr.refl _ _))))) hpa hHeld.2⟩
          clear hK K
          try simp only [Act.put, List.setIfInBounds_toArray, List.set_cons_zero, List.set_cons_succ]
          refine wpAnyH_done (by kernel_rfl) ?_ _
          go_upto_region 30 with fail
          have F5 : Hid (Fr (fun i => i = P ∨ i = pA) w4 (((((w4.setCell ⟨P, 9, none⟩ (.slice b7 (held1 l (L.acq s.lk o.a)).length cp7)).setCell ⟨pA, 0, none⟩ (.int .i64 (L.acq s.lk o.a).2.1)).setCell ⟨pA, 1, none⟩ (.int .i64 (L.acq s.lk o.a).1)).setCell ⟨pA, 2, none⟩ (.int .i64 0)).setCell ⟨pA, 3, none⟩ (.string ⟨#[]⟩))) := (((((Fr.refl (fun i => i = P ∨ i = pA) w4).setCell (p := ⟨P, 9, none⟩) (fun _ => .inl rfl) _).setCell (p := ⟨pA, 0, none⟩) (fun _ => .inr rfl) _).setCell (p := ⟨pA, 1, none⟩) (fun _ => .inr rfl) _).setCell (p := ⟨pA, 2, none⟩) (fun _ => .inr rfl) _).setCell (p := ⟨pA, 3, none⟩) (fun _ => .inr rfl) _
          have A0 : Hid (At (((((w4.setCell ⟨P, 9, none⟩ (.slice b7 (held1 l (L.acq s.lk o.a)).length cp7)).setCell ⟨pA, 0, none⟩ (.int .i64 (L.acq s.lk o.a).2.1)).setCell ⟨pA, 1, none⟩ (.int .i64 (L.acq s.lk o.a).1)).setCell ⟨pA, 2, none⟩ (.int .i64 0)).setCell ⟨pA, 3, none⟩ (.string ⟨#[]⟩)) pA 0 (.int .i64 (L.acq s.lk o.a).2.1)) := ((((B4.out.a0.other (b' := P) (o' := 9) (fun e _ => nPA e) _).same _).other (by omega) _).other (by omega) _).other (by omega) _
          have G5 : Hid (GH (((((w4.setCell ⟨P, 9, none⟩ (.slice b7 (held1 l (L.acq s.lk o.a)).length cp7)).setCell ⟨pA, 0, none⟩ (.int .i64 (L.acq s.lk o.a).2.1)).setCell ⟨pA, 1, none⟩ (.int .i64 (L.acq s.lk o.a).1)).setCell ⟨pA, 2, none⟩ (.int .i64 0)).setCell ⟨pA, 3, none⟩ (.string ⟨#[]⟩)) P s.bal s.un s.lk.op (.slice b7 (held1 l (L.acq s.lk o.a)).length cp7)) := ⟨fun k hk => (((((G4.out.gb k hk).other (by omega) _).other (by omega) _).other (by omega) _).other (by omega) _).other (by omega) _, ((((G4.out.gu.other (by omega) _).other (by omega) _).other (by omega) _).other (by omega) _).other (by omega) _, fun k hk => (((((G4.out.gm k hk).other (by omega) _).other (by omega) _).other (by omega) _).other (by omega) _).other (by omega) _, ((((G4.out.gh.same _).other (by omega) _).other (by omega) _).other (by omega) _).other (by omega) _⟩
          have R5 := hid (R4.out.fr F5.out (fun i c d => by
            rcases d with d | d
            · exact (HWA.out.lo i c).2.2 d
            · exact NA.out i (.inl c) d))
          have P5 := hid (HP4.out.frS F5.out (fun d => by
            rcases d with d | d
            · exact nPO d.symm
            · exact hpa d))
          have O5 := hid (O4.out.fr F5.out (fun q hq d => by
            rcases HO4.out q hq with c | c
            · rcases d with d | d
              · exact (HWA.out.os q c).2.1 d
              · exact NA.out q (.inr (.inr (.inl c))) d
            · have c' : wa.heap.size ≤ q := c
              rcases d with d | d
              · have := HWA.out.g.lt; omega
              · omega))
          have HHC := hid (held_acq HW.out.hl HW.out.cn o.a)
          have hz5 : pO < (((((w4.setCell ⟨P, 9, none⟩ (.slice b7 (held1 l (L.acq s.lk o.a)).length cp7)).setCell ⟨pA, 0, none⟩ (.int .i64 (L.acq s.lk o.a).2.1)).setCell ⟨pA, 1, none⟩ (.int .i64 (L.acq s.lk o.a).1)).setCell ⟨pA, 2, none⟩ (.int .i64 0)).setCell ⟨pA, 3, none⟩ (.string ⟨#[]⟩)).heap.size := by simp; exact hz4
          clear g0 g1 g2 g3 x0 x1 x2 x3 g9 x9 z0 z1 B4 G4 R4 HP4 O4
          generalize ((((w4.setCell ⟨P, 9, none⟩ (.slice b7 (held1 l (L.acq s.lk o.a)).length cp7)).setCell ⟨pA, 0, none⟩ (.int .i64 (L.acq s.lk o.a).2.1)).setCell ⟨pA, 1, none⟩ (.int .i64 (L.acq s.lk o.a).1)).setCell ⟨pA, 2, none⟩ (.int .i64 0)).setCell ⟨pA, 3, none⟩ (.string ⟨#[]⟩) = w5 at *
          have a0 := A0.out.c
          obtain ⟨d0, d1, d2, d3, d4, d5⟩ := P5.out
          simp only [Nat.zero_add] at d1 d2 d3 d4 d5
          have FT : Hid (Fr (fun i => SL lb i ∨ i = P ∨ (Value.slice a7 l.length cap7).ownBlock = some i) W w5) := by
            have hw := FA.out.size
            refine ((FA.out.mono (fun _ _ h => h.elim)).trans (F4.out.mono (fun i _ h => ?_))).then F5.out (fun i hi d => ?_)
            · rcases h with h | h
              · exact .inl (.inr h)
              · exact .inr (.inr h)
            · rcases d with d | d
              · exact .inr (.inl d)
              · have := HPQ.out; omega
          have HOQ : Hid (∀ q, (Value.slice b7 (held1 l (L.acq s.lk o.a)).length cp7).ownBlock = some q → (Value.slice a7 l.length cap7).ownBlock = some q ∨ W.heap.size ≤ q) := fun q hq => by
            rcases HO4.out q hq with c | c
            · exact .inl c
            · have c' : wa.heap.size ≤ q := c
              have hw := FA.out.size
              exact .inr (by omega)
          by_cases hE : (L.acq s.lk o.a).2.1 = 0
          · obtain ⟨k0, k4⟩ := acq_zero hE
            have hn4 : o.a.toNat < 4 := by omega
            have HOP : Hid ((L.acq s.lk o.a).2.2.op = L.updB s.lk.op o.a.toNat true) := by
              unfold Hid
              obtain ⟨n, hn⟩ : ∃ n : Nat, o.a = (n : Int) := ⟨o.a.toNat, by omega⟩
              rw [hn] at hE hn4 ⊢
              simp only [Int.toNat_natCast] at hn4 ⊢
              rcases ho : s.lk.op n with _ | _
              · rw [acq_take hn4 ho]; rfl
              · rw [acq_held hn4 ho] at hE; simp at hE
            rw [hE] at a0
            have cm := (G5.out.gm o.a.toNat hn4).c
            have xm := (G5.out.gm o.a.toNat hn4).f
            clear hE
            go_upto_region 31 with fail
            go_region
            go_upto_region 36 with fail
            have HB5 : Hid (KP w (w5.setCell ⟨P, 5 + o.a.toNat, none⟩ (.bool true)).drew lb P pB ⟨(L.acq s.lk o.a).2.2, s.bal, s.un⟩ (.slice b7 (held1 l (L.acq s.lk o.a)).length cp7) (held1 l (L.acq s.lk o.a))) := by
              have fs : Fr (fun i => i = P) w5 (w5.setCell ⟨P, 5 + o.a.toNat, none⟩ (.bool true)).drew := (in_fr P (5 + o.a.toNat) (.bool true) (Fr.refl _ w5)).drew
              refine HW.out.turn (FT.out.trans (fs.mono (fun _ _ h => .inr (.inl h)))) (R5.out.fr fs (fun i c e => (HWA.out.lo i c).2.2 e)) ⟨fun k hk => ((G5.out.gb k hk).other (by omega) _).drew, (G5.out.gu.other (by omega) _).drew, fun k hk => ?_, (G5.out.gh.other (by omega) _).drew⟩ (O5.out.fr fs (fun q hq e => ?_)) HOQ.out HHC.out.1 HHC.out.2
              · refine At.drew ?_
                show At _ P (5 + k) (.bool ((L.acq s.lk o.a).2.2.op k))
                rw [HOP.out]
                by_cases e : k = o.a.toNat
                · rw [e]
                  exact ((G5.out.gm _ hn4).same _).val (by simp [L.updB])
                · exact ((G5.out.gm k hk).other (by omega) _).val (by simp [L.updB, e])
              · rcases HOQ.out q hq with c | c
                · exact (HW.out.os q c).2.1 e
                · have := HW.out.g.lt; omega
            clear cm xm a0 d0 d1 d2 d3 d4 d5 G5 R5 P5 O5 F5 FT HOQ HHC HW HWA HPA A0 BX NA F4 HO4 FA HOP
            generalize (w5.setCell ⟨P, 5 + o.a.toNat, none⟩ (.bool true)).drew = W5 at *
            generalize held1 l (L.acq s.lk o.a) = l' at *
            obtain ⟨ss, hss⟩ : ∃ ss : Led, ss = ⟨(L.acq s.lk o.a).2.2, s.bal, s.un⟩ := ⟨_, rfl⟩
            rw [← hss] at HB5
            clear hss
            have hp := HB5.out.pb.c
            have ch := HB5.out.g.gh.c
            have hcn : (l'.length : Int) = (ss.lk.cnt : Int) := by have := HB5.out.cn; omega
            go_upto_region 36 with fail
            go_region_held3 (fun W' => W'.cell? ⟨pB, 0, none⟩ = some (.pointer (some ⟨lb.T, 0, none⟩)) ∧ W'.cell? ⟨P, 9, none⟩ = some (.slice b7 l'.length cp7)) (go_keep) (first | (go_at_call 30; refine (held_any HB5.out.r.rt.drew).mono ?_; rintro e z ⟨rfl, hz⟩; obtain rfl := hz.symm))
            go_upto_region 38 with fail
            have HB6 := hid (HB5.out.quiet ((Fr.refl (fun _ => False) W5).drew))
            clear hp ch HB5 hcn
            generalize W5.drew = w6 at *
            go_wp2_with fail
            go_loopw [18, 19] (fun tv i wi => ∃ j : Nat, j ≤ 4 ∧ tv = .string (L.bs (opL ss.lk j)) ∧ i = .int .i64 (j : Int) ∧ wi = w6) (fun _ i _ => 4 - (intOf i).toNat)
            case atStart => exact ⟨0, by omega, rfl, rfl, rfl⟩
            case round =>
              as_aux_lemma =>
                obtain ⟨j, hj, rfl, rfl, hwr⟩ := hrel
                obtain rfl := hwr.symm
                have hj0 : (0 : Int) ≤ (j : Int) := by omega
                have hsz : (L.bs (opL ss.lk j)).size ≤ 9 := by rw [Lbs_size, opL_len]; omega
                by_cases hjl : j < 4
                · have hjI : (j : Int) < 4 := by omega
                  have cm := (HB6.out.g.gm j hjl).c
                  rcases ho : ss.lk.op j with _ | _
                  · rw [ho] at cm
                    have HE : Hid (L.bs (opL ss.lk (j + 1)) = L.bs (opL ss.lk j) ++ ⟨#[48]⟩) := by
                      show L.bs (opL ss.lk j ++ [L.openD ss.lk j]) = _
                      rw [← L.bs_append]
                      unfold L.openD
                      rw [ho]
                      rfl
                    clear ho
                    go_wp2_with fail
                    exact ⟨⟨j + 1, by omega, by rw [HE.out], by go_num, by first | rfl | trivial⟩, by simp [intOf]; omega⟩
                  · rw [ho] at cm
                    have HE : Hid (L.bs (opL ss.lk (j + 1)) = L.bs (opL ss.lk j) ++ ⟨#[49]⟩) := by
                      show L.bs (opL ss.lk j ++ [L.openD ss.lk j]) = _
                      rw [← L.bs_append]
                      unfold L.openD
                      rw [ho]
                      rfl
                    clear ho
                    go_wp2_with fail
                    exact ⟨⟨j + 1, by omega, by rw [HE.out], by go_num, by first | rfl | trivial⟩, by simp [intOf]; omega⟩
                · have hjI : ¬ (j : Int) < 4 := by omega
                  obtain rfl : j = 4 := by omega
                  have hp := HB6.out.pb.c
                  go_upto_region 45 with fail
                  go_upto_region 46 with (first | (go_at_call 25; refine (show_any HB6.out.r.rt).mono ?_; rintro e w7 ⟨rfl, hf7⟩) | fail)
                  have HB7 := hid (HB6.out.quiet hf7)
                  clear hf7 hp HB6
                  have hsh := show_open ss.lk
                  have hrl : (shR ss.lk).length ≤ 100 := by have := HB7.out.r.rt.ok.len; simp [shR]; omega
                  have hcut := cut_head (opL ss.lk 4) (shR ss.lk)
                  rw [← hsh] at hcut
                  have hz1 : (L.bs (opL ss.lk 4)).size = 9 := by rw [Lbs_size, opL_len]
                  have hz2 : (L.bs (L.showL ss.lk)).size = 9 + (shR ss.lk).length := by rw [Lbs_size, hsh]; simp [opL_len]
                  have hz4 : (L.bs (L.showL ss.lk)).size ≤ 200 := by omega
                  rw [show ((opL ss.lk 4).length : Int) = 9 by rw [opL_len]; rfl] at hcut
                  clear hsh hsz
                  generalize (shR ss.lk).length = lr at *
                  generalize hOP : L.bs (opL ss.lk 4) = sop at *
                  clear hOP
                  generalize hSH : L.bs (L.showL ss.lk) = ssh at *
                  have HSH := hid hSH
                  clear hSH hj hj0 hjl hjI
                  go_upto_region 48 with fail
                  clear hcut hz1 hz2 hrl
                  rw [← HSH.out]
                  rw [← HSH.out] at hz4
                  clear HSH
                  cases quiet
                  · go_wp2_with fail
                    refine (audit_any HB7.out.r).mono ?_
                    rintro e z ⟨rfl, hz⟩
                    obtain rfl := hz.symm
                    go_wp2_with fail
                    refine (books_any HB7.out.g HB7.out.r.bl HB7.out.r.ul).mono ?_
                    rintro e w8 ⟨rfl, hf8⟩
                    have HB8 := hid (HB7.out.quiet hf8)
                    have hp := HB8.out.pb.c
                    have hz5 : (L.bs (bookL ss)).size ≤ 200 := by rw [Lbs_size]; exact bookL_len _
                    clear hf8 HB7
                    go_wp2_with fail
                    refine (show_any HB8.out.r.rt).mono ?_
                    rintro e w9 ⟨rfl, hf9⟩
                    have HB9 := hid (HB8.out.quiet hf9)
                    clear hf9 HB8 hp
                    go_wp2_with fail
                    refine (lshow_any HB9.out.r).mono ?_
                    rintro e w10 ⟨rfl, hf10⟩
                    have HB10 := hid (HB9.out.quiet hf10)
                    clear hf10 HB9
                    rw [showD_book]
                    go_upto_region 6 with fail
                    clear hz4 hz5
                    obtain ⟨hlt, hmx, hk0⟩ := HKL.out
                    go_wp2_with fail
                    exact ⟨⟨k + 1, ss, lb, P, _, l', by omega, rfl, rfl, by go_num, HB10.out⟩, by simp [intOf]; omega⟩
                  · clear hz4
                    obtain ⟨hlt, hmx, hk0⟩ := HKL.out
                    go_wp2_with fail
                    exact ⟨⟨k + 1, ss, lb, P, _, l', by omega, rfl, rfl, by go_num, HB7.out⟩, by simp [intOf]; omega⟩
          · have hEb : ((L.acq s.lk o.a).2.1 == 0) = false := by simp [hE]
            have HEQ := hid (acq_err hE)
            have hE' : Hid (held1 l (L.acq s.lk o.a) = l) := by unfold Hid held1; rw [if_neg hE]
            clear hE
            go_upto_region 36 with fail
            have HB5 : Hid (KP w w5 lb P pB ⟨(L.acq s.lk o.a).2.2, s.bal, s.un⟩ (.slice b7 (held1 l (L.acq s.lk o.a)).length cp7) (held1 l (L.acq s.lk o.a))) := by
              refine HW.out.turn FT.out R5.out ?_ O5.out HOQ.out HHC.out.1 HHC.out.2
              show GH w5 P s.bal s.un (L.acq s.lk o.a).2.2.op _
              rw [HEQ.out]
              exact G5.out
            clear a0 d0 d1 d2 d3 d4 d5 G5 R5 P5 O5 F5 FT HOQ HHC HW HWA HPA A0 BX NA F4 HO4 FA HEQ hE'
            generalize held1 l (L.acq s.lk o.a) = l' at *
            obtain ⟨ss, hss⟩ : ∃ ss : Led, ss = ⟨(L.acq s.lk o.a).2.2, s.bal, s.un⟩ := ⟨_, rfl⟩
            rw [← hss] at HB5
            clear hss
            have hp := HB5.out.pb.c
            have ch := HB5.out.g.gh.c
            have hcn : (l'.length : Int) = (ss.lk.cnt : Int) := by have := HB5.out.cn; omega
            go_upto_region 36 with fail
            go_region_held3 (fun W' => W'.cell? ⟨pB, 0, none⟩ = some (.pointer (some ⟨lb.T, 0, none⟩)) ∧ W'.cell? ⟨P, 9, none⟩ = some (.slice b7 l'.length cp7)) (go_keep) (first | (go_at_call 30; refine (held_any HB5.out.r.rt.drew).mono ?_; rintro e z ⟨rfl, hz⟩; obtain rfl := hz.symm))
            go_upto_region 38 with fail
            have HB6 := hid (HB5.out.quiet ((Fr.refl (fun _ => False) w5).drew))
            clear hp ch HB5 hcn
            generalize w5.drew = w6 at *
            go_wp2_with fail
            go_loopw [18, 19] (fun tv i wi => ∃ j : Nat, j ≤ 4 ∧ tv = .string (L.bs (opL ss.lk j)) ∧ i = .int .i64 (j : Int) ∧ wi = w6) (fun _ i _ => 4 - (intOf i).toNat)
            case atStart => exact ⟨0, by omega, rfl, rfl, rfl⟩
            case round =>
              as_aux_lemma =>
                obtain ⟨j, hj, rfl, rfl, hwr⟩ := hrel
                obtain rfl := hwr.symm
                have hj0 : (0 : Int) ≤ (j : Int) := by omega
                have hsz : (L.bs (opL ss.lk j)).size ≤ 9 := by rw [Lbs_size, opL_len]; omega
                by_cases hjl : j < 4
                · have hjI : (j : Int) < 4 := by omega
                  have cm := (HB6.out.g.gm j hjl).c
                  rcases ho : ss.lk.op j with _ | _
                  · rw [ho] at cm
                    have HE : Hid (L.bs (opL ss.lk (j + 1)) = L.bs (opL ss.lk j) ++ ⟨#[48]⟩) := by
                      show L.bs (opL ss.lk j ++ [L.openD ss.lk j]) = _
                      rw [← L.bs_append]
                      unfold L.openD
                      rw [ho]
                      rfl
                    clear ho
                    go_wp2_with fail
                    exact ⟨⟨j + 1, by omega, by rw [HE.out], by go_num, by first | rfl | trivial⟩, by simp [intOf]; omega⟩
                  · rw [ho] at cm
                    have HE : Hid (L.bs (opL ss.lk (j + 1)) = L.bs (opL ss.lk j) ++ ⟨#[49]⟩) := by
                      show L.bs (opL ss.lk j ++ [L.openD ss.lk j]) = _
                      rw [← L.bs_append]
                      unfold L.openD
                      rw [ho]
                      rfl
                    clear ho
                    go_wp2_with fail
                    exact ⟨⟨j + 1, by omega, by rw [HE.out], by go_num, by first | rfl | trivial⟩, by simp [intOf]; omega⟩
                · have hjI : ¬ (j : Int) < 4 := by omega
                  obtain rfl : j = 4 := by omega
                  have hp := HB6.out.pb.c
                  go_upto_region 45 with fail
                  go_upto_region 46 with (first | (go_at_call 25; refine (show_any HB6.out.r.rt).mono ?_; rintro e w7 ⟨rfl, hf7⟩) | fail)
                  have HB7 := hid (HB6.out.quiet hf7)
                  clear hf7 hp HB6
                  have hsh := show_open ss.lk
                  have hrl : (shR ss.lk).length ≤ 100 := by have := HB7.out.r.rt.ok.len; simp [shR]; omega
                  have hcut := cut_head (opL ss.lk 4) (shR ss.lk)
                  rw [← hsh] at hcut
                  have hz1 : (L.bs (opL ss.lk 4)).size = 9 := by rw [Lbs_size, opL_len]
                  have hz2 : (L.bs (L.showL ss.lk)).size = 9 + (shR ss.lk).length := by rw [Lbs_size, hsh]; simp [opL_len]
                  have hz4 : (L.bs (L.showL ss.lk)).size ≤ 200 := by omega
                  rw [show ((opL ss.lk 4).length : Int) = 9 by rw [opL_len]; rfl] at hcut
                  clear hsh hsz
                  generalize (shR ss.lk).length = lr at *
                  generalize hOP : L.bs (opL ss.lk 4) = sop at *
                  clear hOP
                  generalize hSH : L.bs (L.showL ss.lk) = ssh at *
                  have HSH := hid hSH
                  clear hSH hj hj0 hjl hjI
                  go_upto_region 48 with fail
                  clear hcut hz1 hz2 hrl
                  rw [← HSH.out]
                  rw [← HSH.out] at hz4
                  clear HSH
                  cases quiet
                  · go_wp2_with fail
                    refine (audit_any HB7.out.r).mono ?_
                    rintro e z ⟨rfl, hz⟩
                    obtain rfl := hz.symm
                    go_wp2_with fail
                    refine (books_any HB7.out.g HB7.out.r.bl HB7.out.r.ul).mono ?_
                    rintro e w8 ⟨rfl, hf8⟩
                    have HB8 := hid (HB7.out.quiet hf8)
                    have hp := HB8.out.pb.c
                    have hz5 : (L.bs (bookL ss)).size ≤ 200 := by rw [Lbs_size]; exact bookL_len _
                    clear hf8 HB7
                    go_wp2_with fail
                    refine (show_any HB8.out.r.rt).mono ?_
                    rintro e w9 ⟨rfl, hf9⟩
                    have HB9 := hid (HB8.out.quiet hf9)
                    clear hf9 HB8 hp
                    go_wp2_with fail
                    refine (lshow_any HB9.out.r).mono ?_
                    rintro e w10 ⟨rfl, hf10⟩
                    have HB10 := hid (HB9.out.quiet hf10)
                    clear hf10 HB9
                    rw [showD_book]
                    go_upto_region 6 with fail
                    clear hz4 hz5
                    obtain ⟨hlt, hmx, hk0⟩ := HKL.out
                    go_wp2_with fail
                    exact ⟨⟨k + 1, ss, lb, P, _, l', by omega, rfl, rfl, by go_num, HB10.out⟩, by simp [intOf]; omega⟩
                  · clear hz4
                    obtain ⟨hlt, hmx, hk0⟩ := HKL.out
                    go_wp2_with fail
                    exact ⟨⟨k + 1, ss, lb, P, _, l', by omega, rfl, rfl, by go_num, HB7.out⟩, by simp [intOf]; omega⟩
        by_cases h10 : o.kind = 10
        · have h1b : (o.kind == 1) = false := beq_eq_false_iff_ne.2 h1
          have h9b : (o.kind == 9) = false := beq_eq_false_iff_ne.2 h9
          have h10b : (o.kind == 10) = true := beq_iff_eq.2 h10
          clear h1 h9 h10
          have HD := drop_any HW.out.r.rt.drew (HW.out.ow.fr ((Fr.refl (fun _ => False) W).drew) (fun _ _ h => h)) (fun q hq c => (HW.out.os q hq).1 (.inr c)) HLK.out
          have HD := hid HD
          have cv := HW.out.g.gh.c
          go_upto_region 33 with fail
          go_region_held3 (fun W' => W'.cell? ⟨pB, 0, none⟩ = some (.pointer (some ⟨lb.T, 0, none⟩)) ∧ W'.cell? ⟨P, 9, none⟩ = some v) (go_keep) (first | (go_at_call 24; refine HD.out.mono ?_; rintro e w1 ⟨rfl, r1, f1⟩; have z0 : w1.cell? ⟨pB, 0, none⟩ = some (.pointer (some ⟨lb.T, 0, none⟩)) := cellFr f1 (fun c => (HW.out.lo _ (.inr c)).2.1 rfl) (by simp [*]); have z1 : w1.cell? ⟨P, 9, none⟩ = some v := cellFr f1 (fun c => (HW.out.lo _ (.inr c)).2.2 rfl) (by simp [*])))
          have F1 : Hid (Fr (S3 lb.T lb.C lb.R) W w1) := (Fr.refl (S3 lb.T lb.C lb.R) W).drew.trans f1
          have R1 := hid (HW.out.r.lock r1 F1.out)
          have G1 := hid (HW.out.g.fr F1.out (fun c => (HW.out.lo _ (.inr c)).2.2 rfl))
          have HND := hid (held_drop HW.out.r.rt.ok HW.out.hl)
          clear r1 f1 HD d0 d1 d2 d3 d4 d5 hp cv
          have y9 := G1.out.gh.c
          have x9 := G1.out.gh.f
          have y5 := (G1.out.gm 0 (by omega)).c
          have x5 := (G1.out.gm 0 (by omega)).f
          have y6 := (G1.out.gm 1 (by omega)).c
          have x6 := (G1.out.gm 1 (by omega)).f
          have y7 := (G1.out.gm 2 (by omega)).c
          have x7 := (G1.out.gm 2 (by omega)).f
          have y8 := (G1.out.gm 3 (by omega)).c
          have x8 := (G1.out.gm 3 (by omega)).f
          simp only [Nat.add_zero] at y5 x5
          go_upto_region 36 with fail
          have HB5 : Hid (KP w (((((w1.setCell ⟨P, 9, none⟩ (.slice none 0 0)).setCell ⟨P, 5, none⟩ (.bool false)).setCell ⟨P, 6, none⟩ (.bool false)).setCell ⟨P, 7, none⟩ (.bool false)).setCell ⟨P, 8, none⟩ (.bool false)) lb P pB ⟨relAll l.reverse s.lk, s.bal, s.un⟩ (.slice none 0 0) []) := by
            have hf : Fr (fun i => i = P) w1 (((((w1.setCell ⟨P, 9, none⟩ (.slice none 0 0)).setCell ⟨P, 5, none⟩ (.bool false)).setCell ⟨P, 6, none⟩ (.bool false)).setCell ⟨P, 7, none⟩ (.bool false)).setCell ⟨P, 8, none⟩ (.bool false)) := in_fr _ _ _ (in_fr _ _ _ (in_fr _ _ _ (in_fr _ _ _ (in_fr _ _ _ (Fr.refl _ _)))))
            refine HW.out.turn ((F1.out.mono (fun _ _ h => .inl (.inr h))).trans (hf.mono (fun _ _ h => .inr (.inl h)))) (R1.out.fr hf (fun i c e => (HW.out.lo i c).2.2 e)) ⟨fun k hk => ?_, ?_, fun k hk => ?_, ?_⟩ (OwnI.nil _ _) (fun q hq => by simp [Value.ownBlock] at hq) (held_none HND.out) (by rw [cnt_none HND.out]; rfl)
            · exact (((((G1.out.gb k hk).other (by omega) _).other (by omega) _).other (by omega) _).other (by omega) _).other (by omega) _
            · exact ((((G1.out.gu.other (by omega) _).other (by omega) _).other (by omega) _).other (by omega) _).other (by omega) _
            · have hop : (relAll l.reverse s.lk).op k = false := HND.out k hk
              show At _ P (5 + k) (.bool ((relAll l.reverse s.lk).op k))
              rw [hop]
              have : k = 0 ∨ k = 1 ∨ k = 2 ∨ k = 3 := by omega
              rcases this with rfl | rfl | rfl | rfl
              · exact (((((G1.out.gm 0 (by omega)).other (by omega) _).same _).other (by omega) _).other (by omega) _).other (by omega) _
              · exact (((((G1.out.gm 1 (by omega)).other (by omega) _).other (by omega) _).same _).other (by omega) _).other (by omega) _
              · exact (((((G1.out.gm 2 (by omega)).other (by omega) _).other (by omega) _).other (by omega) _).same _).other (by omega) _
              · exact (((((G1.out.gm 3 (by omega)).other (by omega) _).other (by omega) _).other (by omega) _).other (by omega) _).same _
            · exact ((((G1.out.gh.same _).other (by omega) _).other (by omega) _).other (by omega) _).other (by omega) _
          clear y9 x9 y5 x5 y6 x6 y7 x7 y8 x8 G1 R1 F1 HND HW
          generalize ((((w1.setCell ⟨P, 9, none⟩ (.slice none 0 0)).setCell ⟨P, 5, none⟩ (.bool false)).setCell ⟨P, 6, none⟩ (.bool false)).setCell ⟨P, 7, none⟩ (.bool false)).setCell ⟨P, 8, none⟩ (.bool false) = W5 at *
          obtain ⟨ss, hss⟩ : ∃ ss : Led, ss = ⟨relAll l.reverse s.lk, s.bal, s.un⟩ := ⟨_, rfl⟩
          rw [← hss] at HB5
          clear hss
          have hp := HB5.out.pb.c
          have ch := HB5.out.g.gh.c
          have hcn : (0 : Int) = (ss.lk.cnt : Int) := by have := HB5.out.cn; simp at this; omega
          go_upto_region 36 with fail
          go_region_held3 (fun W' => W'.cell? ⟨pB, 0, none⟩ = some (.pointer (some ⟨lb.T, 0, none⟩)) ∧ W'.cell? ⟨P, 9, none⟩ = some (.slice none 0 0)) (go_keep) (first | (go_at_call 30; refine (held_any HB5.out.r.rt.drew).mono ?_; rintro e z ⟨rfl, hz⟩; obtain rfl := hz.symm))
          go_upto_region 38 with fail
          have HB6 := hid (HB5.out.quiet ((Fr.refl (fun _ => False) W5).drew))
          clear hp ch HB5 hcn
          generalize W5.drew = w6 at *
          go_wp2_with fail
          go_loopw [18, 19] (fun tv i wi => ∃ j : Nat, j ≤ 4 ∧ tv = .string (L.bs (opL ss.lk j)) ∧ i = .int .i64 (j : Int) ∧ wi = w6) (fun _ i _ => 4 - (intOf i).toNat)
          case atStart => exact ⟨0, by omega, rfl, rfl, rfl⟩
          case round =>
            as_aux_lemma =>
              obtain ⟨j, hj, rfl, rfl, hwr⟩ := hrel
              obtain rfl := hwr.symm
              have hj0 : (0 : Int) ≤ (j : Int) := by omega
              have hsz : (L.bs (opL ss.lk j)).size ≤ 9 := by rw [Lbs_size, opL_len]; omega
              by_cases hjl : j < 4
              · have hjI : (j : Int) < 4 := by omega
                have cm := (HB6.out.g.gm j hjl).c
                rcases ho : ss.lk.op j with _ | _
                · rw [ho] at cm
                  have HE : Hid (L.bs (opL ss.lk (j + 1)) = L.bs (opL ss.lk j) ++ ⟨#[48]⟩) := by
                    show L.bs (opL ss.lk j ++ [L.openD ss.lk j]) = _
                    rw [← L.bs_append]
                    unfold L.openD
                    rw [ho]
                    rfl
                  clear ho
                  go_wp2_with fail
                  exact ⟨⟨j + 1, by omega, by rw [HE.out], by go_num, by first | rfl | trivial⟩, by simp [intOf]; omega⟩
                · rw [ho] at cm
                  have HE : Hid (L.bs (opL ss.lk (j + 1)) = L.bs (opL ss.lk j) ++ ⟨#[49]⟩) := by
                    show L.bs (opL ss.lk j ++ [L.openD ss.lk j]) = _
                    rw [← L.bs_append]
                    unfold L.openD
                    rw [ho]
                    rfl
                  clear ho
                  go_wp2_with fail
                  exact ⟨⟨j + 1, by omega, by rw [HE.out], by go_num, by first | rfl | trivial⟩, by simp [intOf]; omega⟩
              · have hjI : ¬ (j : Int) < 4 := by omega
                obtain rfl : j = 4 := by omega
                have hp := HB6.out.pb.c
                go_upto_region 45 with fail
                go_upto_region 46 with (first | (go_at_call 25; refine (show_any HB6.out.r.rt).mono ?_; rintro e w7 ⟨rfl, hf7⟩) | fail)
                have HB7 := hid (HB6.out.quiet hf7)
                clear hf7 hp HB6
                have hsh := show_open ss.lk
                have hrl : (shR ss.lk).length ≤ 100 := by have := HB7.out.r.rt.ok.len; simp [shR]; omega
                have hcut := cut_head (opL ss.lk 4) (shR ss.lk)
                rw [← hsh] at hcut
                have hz1 : (L.bs (opL ss.lk 4)).size = 9 := by rw [Lbs_size, opL_len]
                have hz2 : (L.bs (L.showL ss.lk)).size = 9 + (shR ss.lk).length := by rw [Lbs_size, hsh]; simp [opL_len]
                have hz4 : (L.bs (L.showL ss.lk)).size ≤ 200 := by omega
                rw [show ((opL ss.lk 4).length : Int) = 9 by rw [opL_len]; rfl] at hcut
                clear hsh hsz
                generalize (shR ss.lk).length = lr at *
                generalize hOP : L.bs (opL ss.lk 4) = sop at *
                clear hOP
                generalize hSH : L.bs (L.showL ss.lk) = ssh at *
                have HSH := hid hSH
                clear hSH hj hj0 hjl hjI
                go_upto_region 48 with fail
                clear hcut hz1 hz2 hrl
                rw [← HSH.out]
                rw [← HSH.out] at hz4
                clear HSH
                cases quiet
                · go_wp2_with fail
                  refine (audit_any HB7.out.r).mono ?_
                  rintro e z ⟨rfl, hz⟩
                  obtain rfl := hz.symm
                  go_wp2_with fail
                  refine (books_any HB7.out.g HB7.out.r.bl HB7.out.r.ul).mono ?_
                  rintro e w8 ⟨rfl, hf8⟩
                  have HB8 := hid (HB7.out.quiet hf8)
                  have hp := HB8.out.pb.c
                  have hz5 : (L.bs (bookL ss)).size ≤ 200 := by rw [Lbs_size]; exact bookL_len _
                  clear hf8 HB7
                  go_wp2_with fail
                  refine (show_any HB8.out.r.rt).mono ?_
                  rintro e w9 ⟨rfl, hf9⟩
                  have HB9 := hid (HB8.out.quiet hf9)
                  clear hf9 HB8 hp
                  go_wp2_with fail
                  refine (lshow_any HB9.out.r).mono ?_
                  rintro e w10 ⟨rfl, hf10⟩
                  have HB10 := hid (HB9.out.quiet hf10)
                  clear hf10 HB9
                  rw [showD_book]
                  go_upto_region 6 with fail
                  clear hz4 hz5
                  obtain ⟨hlt, hmx, hk0⟩ := HKL.out
                  go_wp2_with fail
                  exact ⟨⟨k + 1, ss, lb, P, _, [], by omega, rfl, rfl, by go_num, HB10.out⟩, by simp [intOf]; omega⟩
                · clear hz4
                  obtain ⟨hlt, hmx, hk0⟩ := HKL.out
                  go_wp2_with fail
                  exact ⟨⟨k + 1, ss, lb, P, _, [], by omega, rfl, rfl, by go_num, HB7.out⟩, by simp [intOf]; omega⟩
        · have h1b : (o.kind == 1) = false := beq_eq_false_iff_ne.2 h1
          have h9b : (o.kind == 9) = false := beq_eq_false_iff_ne.2 h9
          have h10b : (o.kind == 10) = false := beq_eq_false_iff_ne.2 h10
          clear h1 h9 h10
          obtain ⟨a7, cap7, hv, _⟩ := HW.out.ow.form2
          subst hv
          go_wp2_with fail
          refine (show_any HW.out.r.rt).mono ?_
          rintro e w1 ⟨rfl, hf1⟩
          have HW1 := hid (HW.out.quiet hf1)
          have HP1 := hid (HPO.out.fr hf1)
          have hz1 : pO < w1.heap.size := Nat.lt_of_lt_of_le hzO hf1.size
          have hszB : (L.bs (L.showL s.lk)).size ≤ 200 := by rw [Lbs_size, show_open]; have := HW1.out.r.rt.ok.len; simp [opL_len, shR]; omega
          clear hf1 hp HW HPO d0 d1 d2 d3 d4 d5
          obtain ⟨d0, d1, d2, d3, d4, d5⟩ := HP1.out
          simp only [Nat.zero_add] at d1 d2 d3 d4 d5
          have HA := do_any HW1.out.r o
          simp only [Stp.val, doV, ansV] at HA
          have HA := hid HA
          go_wp2_with fail
          refine HA.out.mono ?_
          rintro e w2 ⟨rfl, hr2, hf2⟩
          have n2 : ¬ SL lb pO := fun c => HOL.out pO (.inl c) rfl
          have HP2 := hid (HP1.out.frS hf2 n2)
          have R2 := hid hr2
          have F2 := hid hf2
          have G2 := hid (HW1.out.g.fr hf2 (fun c => (HW1.out.lo _ c).2.2 rfl))
          have O2 := hid (HW1.out.ow.fr hf2 (fun q hq => (HW1.out.os q hq).1))
          have hz2 : pO < w2.heap.size := Nat.lt_of_lt_of_le hz1 hf2.size
          clear hr2 hf2 n2 HA d0 d1 d2 d3 d4 d5 HP1
          obtain ⟨d0, d1, d2, d3, d4, d5⟩ := HP2.out
          simp only [Nat.zero_add] at d1 d2 d3 d4 d5
          go_upto_region 11 with fail
          have FA := hid ((Fr.refl (fun _ => False) w2).alloc (.cells #[.int .i64 (doE s o), .int .i64 (doN s o), .int .i64 0, .string (doT s o)] 51))
          have AN : Hid (∀ q u, (#[.int .i64 (doE s o), .int .i64 (doN s o), .int .i64 0, .string (doT s o)] : Array Value)[q]? = some u → At (w2.alloc (.cells #[.int .i64 (doE s o), .int .i64 (doN s o), .int .i64 0, .string (doT s o)] 51)) w2.heap.size q u) := fun q u hu => At.new w2 _ _ hu
          have HP3 := hid (HP2.out.fr FA.out)
          have NA : Hid (P ≠ w2.heap.size ∧ w.heap.size ≤ w2.heap.size ∧ (∀ i, SL lb i → i ≠ w2.heap.size) ∧ pB ≠ w2.heap.size ∧ (∀ q, (Value.slice a7 l.length cap7).ownBlock = some q → q ≠ w2.heap.size)) := ⟨Nat.ne_of_lt G2.out.lt, by have := HW1.out.f.size; have := F2.out.size; omega, fun i c => Nat.ne_of_lt (R2.out.lt i c), by have := HW1.out.pb.lt; have := F2.out.size; omega, fun q hq => Nat.ne_of_lt (O2.out.lt hq).2⟩
          have hz3 : pO < (w2.alloc (.cells #[.int .i64 (doE s o), .int .i64 (doN s o), .int .i64 0, .string (doT s o)] 51)).heap.size := by simp; omega
          have hza : w2.heap.size < (w2.alloc (.cells #[.int .i64 (doE s o), .int .i64 (doN s o), .int .i64 0, .string (doT s o)] 51)).heap.size := by simp
          have hne1 : pO ≠ w2.heap.size := Nat.ne_of_lt hz2
          clear HP2 d0 d1 d2 d3 d4 d5 hz2
          generalize w2.alloc (.cells #[.int .i64 (doE s o), .int .i64 (doN s o), .int .i64 0, .string (doT s o)] 51) = wa at *
          generalize w2.heap.size = pA at *
          obtain ⟨d0, d1, d2, d3, d4, d5⟩ := HP3.out
          simp only [Nat.zero_add] at d1 d2 d3 d4 d5
          have HA := owed_any (G2.out.fr FA.out (fun h => h)) HW1.out.r.rt.ok HW1.out.r.bl HW1.out.r.tot o
          simp only [Stp.val] at HA
          unfold OwnP ansV at HA
          have HA := hid HA
          go_wp2_with fail
          refine HA.out.mono ?_
          rintro e w3 ⟨rfl, g3, kp3, f3⟩
          have nP : pO ≠ P := fun e => HOL.out P (.inr (.inl rfl)) e.symm
          have HP4 := hid (HP3.out.frS f3 nP)
          have A3 := hid (fun q u hu => (AN.out q u hu).fr f3 (fun e => NA.out.1 e.symm))
          have HB3 : Hid (KP w w3 lb P pB (doS s o) (.slice a7 l.length cap7) l) := by
            have r3 := (R2.out.fr FA.out (fun _ _ h => h)).fr f3 (fun i c e => (HW1.out.lo i c).2.2 e)
            have o3 := (O2.out.fr FA.out (fun _ _ h => h)).fr f3 (fun q hq e => (HW1.out.os q hq).2.1 e)
            rw [← kp3.op] at g3
            exact HW1.out.turn (((F2.out.mono (fun _ _ h => .inl h)).trans (FA.out.mono (fun _ _ h => h.elim))).trans (f3.mono (fun _ _ h => .inr (.inl h)))) r3 g3 o3 (fun q hq => .inl hq) (HW1.out.hl.kept kp3) (by rw [cnt_kept kp3]; exact HW1.out.cn)
          have hzb : pA < w3.heap.size := Nat.lt_of_lt_of_le hza f3.size
          have hz4 : pO < w3.heap.size := Nat.lt_of_lt_of_le hz3 f3.size
          clear g3 kp3 f3 HA HP3 AN R2 F2 G2 O2 FA HW1 d0 d1 d2 d3 d4 d5 hz1 hz3 hza
          obtain ⟨d0, d1, d2, d3, d4, d5⟩ := HP4.out
          simp only [Nat.zero_add] at d1 d2 d3 d4 d5
          go_upto_region 12 with fail
          have FB := hid ((Fr.refl (fun _ => False) w3).alloc (.cells #[.int .i64 (doE s o), .int .i64 (doN s o), .int .i64 0, .string ⟨#[]⟩] 51))
          have WN : Hid (∀ q u, (#[.int .i64 (doE s o), .int .i64 (doN s o), .int .i64 0, .string ⟨#[]⟩] : Array Value)[q]? = some u → At (w3.alloc (.cells #[.int .i64 (doE s o), .int .i64 (doN s o), .int .i64 0, .string ⟨#[]⟩] 51)) w3.heap.size q u) := fun q u hu => At.new w3 _ _ hu
          have HP5 := hid (HP4.out.fr FB.out)
          have A4 := hid (fun q u hu => (A3.out q u hu).fr FB.out (fun h => h))
          have HB4 := hid (HB3.out.quiet FB.out)
          have NW : Hid (¬ SL lb w3.heap.size ∧ w3.heap.size ≠ P ∧ w3.heap.size ≠ pB ∧ (Value.slice a7 l.length cap7).ownBlock ≠ some w3.heap.size ∧ w.heap.size ≤ w3.heap.size ∧ w3.heap.size ≠ pA) := ⟨fun c => by have := HB3.out.r.lt _ c; omega, fun e => by have := HB3.out.g.lt; omega, fun e => by have := HB3.out.pb.lt; omega, fun e => by have := (HB3.out.ow.lt e).2; omega, HB3.out.f.size, fun e => by omega⟩
          clear HP4 A3 HB3 FB d0 d1 d2 d3 d4 d5
          generalize w3.alloc (.cells #[.int .i64 (doE s o), .int .i64 (doN s o), .int .i64 0, .string ⟨#[]⟩] 51) = wb at *
          generalize w3.heap.size = pW at *
          obtain ⟨d0, d1, d2, d3, d4, d5⟩ := HP5.out
          simp only [Nat.zero_add] at d1 d2 d3 d4 d5
          by_cases h7 : o.kind = 7
          · have h7b : (o.kind == 7) = true := beq_iff_eq.2 h7
            have hS : doS s o = s := owC_false (by unfold owC; simp [h7])
            have hT : doT s o = L.bs (bookL s) ++ L.bs (L.showL s.lk) := by unfold doT; rw [if_pos h7, showD_book]
            have hszk : (L.bs (bookL s)).size ≤ 200 := by rw [Lbs_size]; exact bookL_len _
            rw [hT] at A4
            clear h7
            go_wp2_with fail
            have HBK := books_any HB4.out.g HB4.out.r.bl HB4.out.r.ul
            rw [hS] at HBK
            refine HBK.mono ?_
            clear HBK
            rintro e w5 ⟨rfl, hf5⟩
            have HB5' := hid (HB4.out.quiet hf5)
            have A5 := hid (fun q u hu => (A4.out q u hu).fr hf5 (fun h => h))
            have W5 := hid (fun q u hu => (WN.out q u hu).fr hf5 (fun h => h))
            clear hf5 HB4 A4 WN d0 d1 d2 d3 d4 d5
            have wn3 := (W5.out 3 _ rfl).c
            have wx3 := (W5.out 3 _ rfl).f
            go_upto_region 15 with fail
            have nW := NW.out
            have HB6 := hid (HB5'.out.aside ⟨nW.1, nW.2.1, nW.2.2.1, nW.2.2.2.1, nW.2.2.2.2.1⟩ (in_fr pW 3 (.string (L.bs (bookL s) ++ L.bs (L.showL s.lk))) (Fr.refl _ w5)))
            have an0 := ((A5.out 0 _ rfl).other (b' := pW) (o' := 3) (by omega) (.string (L.bs (bookL s) ++ L.bs (L.showL s.lk)))).c
            have an1 := ((A5.out 1 _ rfl).other (b' := pW) (o' := 3) (by omega) (.string (L.bs (bookL s) ++ L.bs (L.showL s.lk)))).c
            have an2 := ((A5.out 2 _ rfl).other (b' := pW) (o' := 3) (by omega) (.string (L.bs (bookL s) ++ L.bs (L.showL s.lk)))).c
            have an3 := ((A5.out 3 _ rfl).other (b' := pW) (o' := 3) (by omega) (.string (L.bs (bookL s) ++ L.bs (L.showL s.lk)))).c
            have wn0 := ((W5.out 0 _ rfl).other (b' := pW) (o' := 3) (by omega) (.string (L.bs (bookL s) ++ L.bs (L.showL s.lk)))).c
            have wn1 := ((W5.out 1 _ rfl).other (b' := pW) (o' := 3) (by omega) (.string (L.bs (bookL s) ++ L.bs (L.showL s.lk)))).c
            have wn2 := ((W5.out 2 _ rfl).other (b' := pW) (o' := 3) (by omega) (.string (L.bs (bookL s) ++ L.bs (L.showL s.lk)))).c
            have wn3 := ((W5.out 3 _ rfl).same (.string (L.bs (bookL s) ++ L.bs (L.showL s.lk)))).c
            clear wx3 A5 W5 HB5' NW NA nW hS hT hszk hszB
            generalize w5.setCell ⟨pW, 3, none⟩ (.string (L.bs (bookL s) ++ L.bs (L.showL s.lk))) = w6 at *
            go_upto_region 17 with fail
            clear an0 an1 an2 an3 wn0 wn1 wn2 wn3
            have hp := HB6.out.pb.c
            go_upto_region 18 with (first | (go_at_call 25; refine (show_any HB6.out.r.rt).mono ?_; rintro e w7 ⟨rfl, hf7⟩) | fail)
            have HB5 := hid (HB6.out.quiet hf7)
            clear hf7 hp HB6
            have hzl : (L.bs (owT s o)).size ≤ 24 := by
              unfold owT
              split
              · rw [Lbs_size]; exact HB5.out.r.rt.ok.len
              · simp [L.bs, ByteArray.size]
            rcases hcl : owC o with _ | _
            · have hS := owC_false (s := s) hcl
              rw [hS] at HB5 ⊢
              clear hcl hS hzl
              go_upto_region 36 with fail
              obtain ⟨ss, hss⟩ : ∃ ss : Led, ss = s := ⟨_, rfl⟩
              rw [← hss] at HB5
              clear hss
              have hp := HB5.out.pb.c
              have ch := HB5.out.g.gh.c
              have hcn : (l.length : Int) = (ss.lk.cnt : Int) := by have := HB5.out.cn; omega
              go_upto_region 36 with fail
              go_region_held3 (fun W' => W'.cell? ⟨pB, 0, none⟩ = some (.pointer (some ⟨lb.T, 0, none⟩)) ∧ W'.cell? ⟨P, 9, none⟩ = some (.slice a7 l.length cap7)) (go_keep) (first | (go_at_call 30; refine (held_any HB5.out.r.rt.drew).mono ?_; rintro e z ⟨rfl, hz⟩; obtain rfl := hz.symm))
              go_upto_region 38 with fail
              have HB6 := hid (HB5.out.quiet ((Fr.refl (fun _ => False) w7).drew))
              clear hp ch HB5 hcn
              generalize w7.drew = w6 at *
              go_wp2_with fail
              go_loopw [18, 19] (fun tv i wi => ∃ j : Nat, j ≤ 4 ∧ tv = .string (L.bs (opL ss.lk j)) ∧ i = .int .i64 (j : Int) ∧ wi = w6) (fun _ i _ => 4 - (intOf i).toNat)
              case atStart => exact ⟨0, by omega, rfl, rfl, rfl⟩
              case round =>
                as_aux_lemma =>
                  obtain ⟨j, hj, rfl, rfl, hwr⟩ := hrel
                  obtain rfl := hwr.symm
                  have hj0 : (0 : Int) ≤ (j : Int) := by omega
                  have hsz : (L.bs (opL ss.lk j)).size ≤ 9 := by rw [Lbs_size, opL_len]; omega
                  by_cases hjl : j < 4
                  · have hjI : (j : Int) < 4 := by omega
                    have cm := (HB6.out.g.gm j hjl).c
                    rcases ho : ss.lk.op j with _ | _
                    · rw [ho] at cm
                      have HE : Hid (L.bs (opL ss.lk (j + 1)) = L.bs (opL ss.lk j) ++ ⟨#[48]⟩) := by
                        show L.bs (opL ss.lk j ++ [L.openD ss.lk j]) = _
                        rw [← L.bs_append]
                        unfold L.openD
                        rw [ho]
                        rfl
                      clear ho
                      go_wp2_with fail
                      exact ⟨⟨j + 1, by omega, by rw [HE.out], by go_num, by first | rfl | trivial⟩, by simp [intOf]; omega⟩
                    · rw [ho] at cm
                      have HE : Hid (L.bs (opL ss.lk (j + 1)) = L.bs (opL ss.lk j) ++ ⟨#[49]⟩) := by
                        show L.bs (opL ss.lk j ++ [L.openD ss.lk j]) = _
                        rw [← L.bs_append]
                        unfold L.openD
                        rw [ho]
                        rfl
                      clear ho
                      go_wp2_with fail
                      exact ⟨⟨j + 1, by omega, by rw [HE.out], by go_num, by first | rfl | trivial⟩, by simp [intOf]; omega⟩
                  · have hjI : ¬ (j : Int) < 4 := by omega
                    obtain rfl : j = 4 := by omega
                    have hp := HB6.out.pb.c
                    go_upto_region 45 with fail
                    go_upto_region 46 with (first | (go_at_call 25; refine (show_any HB6.out.r.rt).mono ?_; rintro e w7 ⟨rfl, hf7⟩) | fail)
                    have HB7 := hid (HB6.out.quiet hf7)
                    clear hf7 hp HB6
                    have hsh := show_open ss.lk
                    have hrl : (shR ss.lk).length ≤ 100 := by have := HB7.out.r.rt.ok.len; simp [shR]; omega
                    have hcut := cut_head (opL ss.lk 4) (shR ss.lk)
                    rw [← hsh] at hcut
                    have hz1 : (L.bs (opL ss.lk 4)).size = 9 := by rw [Lbs_size, opL_len]
                    have hz2 : (L.bs (L.showL ss.lk)).size = 9 + (shR ss.lk).length := by rw [Lbs_size, hsh]; simp [opL_len]
                    have hz4 : (L.bs (L.showL ss.lk)).size ≤ 200 := by omega
                    rw [show ((opL ss.lk 4).length : Int) = 9 by rw [opL_len]; rfl] at hcut
                    clear hsh hsz
                    generalize (shR ss.lk).length = lr at *
                    generalize hOP : L.bs (opL ss.lk 4) = sop at *
                    clear hOP
                    generalize hSH : L.bs (L.showL ss.lk) = ssh at *
                    have HSH := hid hSH
                    clear hSH hj hj0 hjl hjI
                    go_upto_region 48 with fail
                    clear hcut hz1 hz2 hrl
                    rw [← HSH.out]
                    rw [← HSH.out] at hz4
                    clear HSH
                    cases quiet
                    · go_wp2_with fail
                      refine (audit_any HB7.out.r).mono ?_
                      rintro e z ⟨rfl, hz⟩
                      obtain rfl := hz.symm
                      go_wp2_with fail
                      refine (books_any HB7.out.g HB7.out.r.bl HB7.out.r.ul).mono ?_
                      rintro e w8 ⟨rfl, hf8⟩
                      have HB8 := hid (HB7.out.quiet hf8)
                      have hp := HB8.out.pb.c
                      have hz5 : (L.bs (bookL ss)).size ≤ 200 := by rw [Lbs_size]; exact bookL_len _
                      clear hf8 HB7
                      go_wp2_with fail
                      refine (show_any HB8.out.r.rt).mono ?_
                      rintro e w9 ⟨rfl, hf9⟩
                      have HB9 := hid (HB8.out.quiet hf9)
                      clear hf9 HB8 hp
                      go_wp2_with fail
                      refine (lshow_any HB9.out.r).mono ?_
                      rintro e w10 ⟨rfl, hf10⟩
                      have HB10 := hid (HB9.out.quiet hf10)
                      clear hf10 HB9
                      rw [showD_book]
                      go_upto_region 6 with fail
                      clear hz4 hz5
                      obtain ⟨hlt, hmx, hk0⟩ := HKL.out
                      go_wp2_with fail
                      exact ⟨⟨k + 1, ss, lb, P, _, l, by omega, rfl, rfl, by go_num, HB10.out⟩, by simp [intOf]; omega⟩
                    · clear hz4
                      obtain ⟨hlt, hmx, hk0⟩ := HKL.out
                      go_wp2_with fail
                      exact ⟨⟨k + 1, ss, lb, P, _, l, by omega, rfl, rfl, by go_num, HB7.out⟩, by simp [intOf]; omega⟩
            · have HTL := tail_any (opL (doS s o).lk 4 ++ ([32, 103, 101, 110, 61] ++ [L.dig ((doS s o).lk.gen 0), L.dig ((doS s o).lk.gen 1), L.dig ((doS s o).lk.gen 2), L.dig ((doS s o).lk.gen 3)])) ([32, 116, 114, 97, 99, 101, 61] ++ (doS s o).lk.tr) (by simp [opL_len]) (by have := HB5.out.r.rt.ok.len; simp; omega) w7
              rw [← show_tail] at HTL
              have hT : L.bs ([32, 116, 114, 97, 99, 101, 61] ++ (doS s o).lk.tr) = ⟨#[32, 116, 114, 97, 99, 101, 61]⟩ ++ L.bs (owT s o) := by
                unfold owT
                rw [if_pos hcl, ← L.bs_append]
                rfl
              rw [hT] at HTL
              have HTL := hid HTL
              clear hT hcl
              go_wp2_with fail
              refine HTL.out.mono ?_
              rintro e z ⟨rfl, hz⟩
              obtain rfl := hz.symm
              clear HTL hzl
              go_upto_region 36 with fail
              obtain ⟨ss, hss⟩ : ∃ ss : Led, ss = doS s o := ⟨_, rfl⟩
              rw [← hss] at HB5
              clear hss
              have hp := HB5.out.pb.c
              have ch := HB5.out.g.gh.c
              have hcn : (l.length : Int) = (ss.lk.cnt : Int) := by have := HB5.out.cn; omega
              go_upto_region 36 with fail
              go_region_held3 (fun W' => W'.cell? ⟨pB, 0, none⟩ = some (.pointer (some ⟨lb.T, 0, none⟩)) ∧ W'.cell? ⟨P, 9, none⟩ = some (.slice a7 l.length cap7)) (go_keep) (first | (go_at_call 30; refine (held_any HB5.out.r.rt.drew).mono ?_; rintro e z ⟨rfl, hz⟩; obtain rfl := hz.symm))
              go_upto_region 38 with fail
              have HB6 := hid (HB5.out.quiet ((Fr.refl (fun _ => False) w7).drew))
              clear hp ch HB5 hcn
              generalize w7.drew = w6 at *
              go_wp2_with fail
              go_loopw [18, 19] (fun tv i wi => ∃ j : Nat, j ≤ 4 ∧ tv = .string (L.bs (opL ss.lk j)) ∧ i = .int .i64 (j : Int) ∧ wi = w6) (fun _ i _ => 4 - (intOf i).toNat)
              case atStart => exact ⟨0, by omega, rfl, rfl, rfl⟩
              case round =>
                as_aux_lemma =>
                  obtain ⟨j, hj, rfl, rfl, hwr⟩ := hrel
                  obtain rfl := hwr.symm
                  have hj0 : (0 : Int) ≤ (j : Int) := by omega
                  have hsz : (L.bs (opL ss.lk j)).size ≤ 9 := by rw [Lbs_size, opL_len]; omega
                  by_cases hjl : j < 4
                  · have hjI : (j : Int) < 4 := by omega
                    have cm := (HB6.out.g.gm j hjl).c
                    rcases ho : ss.lk.op j with _ | _
                    · rw [ho] at cm
                      have HE : Hid (L.bs (opL ss.lk (j + 1)) = L.bs (opL ss.lk j) ++ ⟨#[48]⟩) := by
                        show L.bs (opL ss.lk j ++ [L.openD ss.lk j]) = _
                        rw [← L.bs_append]
                        unfold L.openD
                        rw [ho]
                        rfl
                      clear ho
                      go_wp2_with fail
                      exact ⟨⟨j + 1, by omega, by rw [HE.out], by go_num, by first | rfl | trivial⟩, by simp [intOf]; omega⟩
                    · rw [ho] at cm
                      have HE : Hid (L.bs (opL ss.lk (j + 1)) = L.bs (opL ss.lk j) ++ ⟨#[49]⟩) := by
                        show L.bs (opL ss.lk j ++ [L.openD ss.lk j]) = _
                        rw [← L.bs_append]
                        unfold L.openD
                        rw [ho]
                        rfl
                      clear ho
                      go_wp2_with fail
                      exact ⟨⟨j + 1, by omega, by rw [HE.out], by go_num, by first | rfl | trivial⟩, by simp [intOf]; omega⟩
                  · have hjI : ¬ (j : Int) < 4 := by omega
                    obtain rfl : j = 4 := by omega
                    have hp := HB6.out.pb.c
                    go_upto_region 45 with fail
                    go_upto_region 46 with (first | (go_at_call 25; refine (show_any HB6.out.r.rt).mono ?_; rintro e w7 ⟨rfl, hf7⟩) | fail)
                    have HB7 := hid (HB6.out.quiet hf7)
                    clear hf7 hp HB6
                    have hsh := show_open ss.lk
                    have hrl : (shR ss.lk).length ≤ 100 := by have := HB7.out.r.rt.ok.len; simp [shR]; omega
                    have hcut := cut_head (opL ss.lk 4) (shR ss.lk)
                    rw [← hsh] at hcut
                    have hz1 : (L.bs (opL ss.lk 4)).size = 9 := by rw [Lbs_size, opL_len]
                    have hz2 : (L.bs (L.showL ss.lk)).size = 9 + (shR ss.lk).length := by rw [Lbs_size, hsh]; simp [opL_len]
                    have hz4 : (L.bs (L.showL ss.lk)).size ≤ 200 := by omega
                    rw [show ((opL ss.lk 4).length : Int) = 9 by rw [opL_len]; rfl] at hcut
                    clear hsh hsz
                    generalize (shR ss.lk).length = lr at *
                    generalize hOP : L.bs (opL ss.lk 4) = sop at *
                    clear hOP
                    generalize hSH : L.bs (L.showL ss.lk) = ssh at *
                    have HSH := hid hSH
                    clear hSH hj hj0 hjl hjI
                    go_upto_region 48 with fail
                    clear hcut hz1 hz2 hrl
                    rw [← HSH.out]
                    rw [← HSH.out] at hz4
                    clear HSH
                    cases quiet
                    · go_wp2_with fail
                      refine (audit_any HB7.out.r).mono ?_
                      rintro e z ⟨rfl, hz⟩
                      obtain rfl := hz.symm
                      go_wp2_with fail
                      refine (books_any HB7.out.g HB7.out.r.bl HB7.out.r.ul).mono ?_
                      rintro e w8 ⟨rfl, hf8⟩
                      have HB8 := hid (HB7.out.quiet hf8)
                      have hp := HB8.out.pb.c
                      have hz5 : (L.bs (bookL ss)).size ≤ 200 := by rw [Lbs_size]; exact bookL_len _
                      clear hf8 HB7
                      go_wp2_with fail
                      refine (show_any HB8.out.r.rt).mono ?_
                      rintro e w9 ⟨rfl, hf9⟩
                      have HB9 := hid (HB8.out.quiet hf9)
                      clear hf9 HB8 hp
                      go_wp2_with fail
                      refine (lshow_any HB9.out.r).mono ?_
                      rintro e w10 ⟨rfl, hf10⟩
                      have HB10 := hid (HB9.out.quiet hf10)
                      clear hf10 HB9
                      rw [showD_book]
                      go_upto_region 6 with fail
                      clear hz4 hz5
                      obtain ⟨hlt, hmx, hk0⟩ := HKL.out
                      go_wp2_with fail
                      exact ⟨⟨k + 1, ss, lb, P, _, l, by omega, rfl, rfl, by go_num, HB10.out⟩, by simp [intOf]; omega⟩
                    · clear hz4
                      obtain ⟨hlt, hmx, hk0⟩ := HKL.out
                      go_wp2_with fail
                      exact ⟨⟨k + 1, ss, lb, P, _, l, by omega, rfl, rfl, by go_num, HB7.out⟩, by simp [intOf]; omega⟩
          · have h7b : (o.kind == 7) = false := beq_eq_false_iff_ne.2 h7
            have hT : doT s o = ⟨#[]⟩ := by unfold doT; rw [if_neg h7]
            rw [hT] at A4
            clear h7 hT hszB
            have an0 := (A4.out 0 _ rfl).c
            have an1 := (A4.out 1 _ rfl).c
            have an2 := (A4.out 2 _ rfl).c
            have an3 := (A4.out 3 _ rfl).c
            have wn0 := (WN.out 0 _ rfl).c
            have wn1 := (WN.out 1 _ rfl).c
            have wn2 := (WN.out 2 _ rfl).c
            have wn3 := (WN.out 3 _ rfl).c
            clear A4 WN NW NA
            go_upto_region 17 with fail
            clear an0 an1 an2 an3 wn0 wn1 wn2 wn3
            have hp := HB4.out.pb.c
            go_upto_region 18 with (first | (go_at_call 25; refine (show_any HB4.out.r.rt).mono ?_; rintro e w7 ⟨rfl, hf7⟩) | fail)
            have HB5 := hid (HB4.out.quiet hf7)
            clear hf7 hp HB4
            have hzl : (L.bs (owT s o)).size ≤ 24 := by
              unfold owT
              split
              · rw [Lbs_size]; exact HB5.out.r.rt.ok.len
              · simp [L.bs, ByteArray.size]
            rcases hcl : owC o with _ | _
            · have hS := owC_false (s := s) hcl
              rw [hS] at HB5 ⊢
              clear hcl hS hzl
              go_upto_region 36 with fail
              obtain ⟨ss, hss⟩ : ∃ ss : Led, ss = s := ⟨_, rfl⟩
              rw [← hss] at HB5
              clear hss
              have hp := HB5.out.pb.c
              have ch := HB5.out.g.gh.c
              have hcn : (l.length : Int) = (ss.lk.cnt : Int) := by have := HB5.out.cn; omega
              go_upto_region 36 with fail
              go_region_held3 (fun W' => W'.cell? ⟨pB, 0, none⟩ = some (.pointer (some ⟨lb.T, 0, none⟩)) ∧ W'.cell? ⟨P, 9, none⟩ = some (.slice a7 l.length cap7)) (go_keep) (first | (go_at_call 30; refine (held_any HB5.out.r.rt.drew).mono ?_; rintro e z ⟨rfl, hz⟩; obtain rfl := hz.symm))
              go_upto_region 38 with fail
              have HB6 := hid (HB5.out.quiet ((Fr.refl (fun _ => False) w7).drew))
              clear hp ch HB5 hcn
              generalize w7.drew = w6 at *
              go_wp2_with fail
              go_loopw [18, 19] (fun tv i wi => ∃ j : Nat, j ≤ 4 ∧ tv = .string (L.bs (opL ss.lk j)) ∧ i = .int .i64 (j : Int) ∧ wi = w6) (fun _ i _ => 4 - (intOf i).toNat)
              case atStart => exact ⟨0, by omega, rfl, rfl, rfl⟩
              case round =>
                as_aux_lemma =>
                  obtain ⟨j, hj, rfl, rfl, hwr⟩ := hrel
                  obtain rfl := hwr.symm
                  have hj0 : (0 : Int) ≤ (j : Int) := by omega
                  have hsz : (L.bs (opL ss.lk j)).size ≤ 9 := by rw [Lbs_size, opL_len]; omega
                  by_cases hjl : j < 4
                  · have hjI : (j : Int) < 4 := by omega
                    have cm := (HB6.out.g.gm j hjl).c
                    rcases ho : ss.lk.op j with _ | _
                    · rw [ho] at cm
                      have HE : Hid (L.bs (opL ss.lk (j + 1)) = L.bs (opL ss.lk j) ++ ⟨#[48]⟩) := by
                        show L.bs (opL ss.lk j ++ [L.openD ss.lk j]) = _
                        rw [← L.bs_append]
                        unfold L.openD
                        rw [ho]
                        rfl
                      clear ho
                      go_wp2_with fail
                      exact ⟨⟨j + 1, by omega, by rw [HE.out], by go_num, by first | rfl | trivial⟩, by simp [intOf]; omega⟩
                    · rw [ho] at cm
                      have HE : Hid (L.bs (opL ss.lk (j + 1)) = L.bs (opL ss.lk j) ++ ⟨#[49]⟩) := by
                        show L.bs (opL ss.lk j ++ [L.openD ss.lk j]) = _
                        rw [← L.bs_append]
                        unfold L.openD
                        rw [ho]
                        rfl
                      clear ho
                      go_wp2_with fail
                      exact ⟨⟨j + 1, by omega, by rw [HE.out], by go_num, by first | rfl | trivial⟩, by simp [intOf]; omega⟩
                  · have hjI : ¬ (j : Int) < 4 := by omega
                    obtain rfl : j = 4 := by omega
                    have hp := HB6.out.pb.c
                    go_upto_region 45 with fail
                    go_upto_region 46 with (first | (go_at_call 25; refine (show_any HB6.out.r.rt).mono ?_; rintro e w7 ⟨rfl, hf7⟩) | fail)
                    have HB7 := hid (HB6.out.quiet hf7)
                    clear hf7 hp HB6
                    have hsh := show_open ss.lk
                    have hrl : (shR ss.lk).length ≤ 100 := by have := HB7.out.r.rt.ok.len; simp [shR]; omega
                    have hcut := cut_head (opL ss.lk 4) (shR ss.lk)
                    rw [← hsh] at hcut
                    have hz1 : (L.bs (opL ss.lk 4)).size = 9 := by rw [Lbs_size, opL_len]
                    have hz2 : (L.bs (L.showL ss.lk)).size = 9 + (shR ss.lk).length := by rw [Lbs_size, hsh]; simp [opL_len]
                    have hz4 : (L.bs (L.showL ss.lk)).size ≤ 200 := by omega
                    rw [show ((opL ss.lk 4).length : Int) = 9 by rw [opL_len]; rfl] at hcut
                    clear hsh hsz
                    generalize (shR ss.lk).length = lr at *
                    generalize hOP : L.bs (opL ss.lk 4) = sop at *
                    clear hOP
                    generalize hSH : L.bs (L.showL ss.lk) = ssh at *
                    have HSH := hid hSH
                    clear hSH hj hj0 hjl hjI
                    go_upto_region 48 with fail
                    clear hcut hz1 hz2 hrl
                    rw [← HSH.out]
                    rw [← HSH.out] at hz4
                    clear HSH
                    cases quiet
                    · go_wp2_with fail
                      refine (audit_any HB7.out.r).mono ?_
                      rintro e z ⟨rfl, hz⟩
                      obtain rfl := hz.symm
                      go_wp2_with fail
                      refine (books_any HB7.out.g HB7.out.r.bl HB7.out.r.ul).mono ?_
                      rintro e w8 ⟨rfl, hf8⟩
                      have HB8 := hid (HB7.out.quiet hf8)
                      have hp := HB8.out.pb.c
                      have hz5 : (L.bs (bookL ss)).size ≤ 200 := by rw [Lbs_size]; exact bookL_len _
                      clear hf8 HB7
                      go_wp2_with fail
                      refine (show_any HB8.out.r.rt).mono ?_
                      rintro e w9 ⟨rfl, hf9⟩
                      have HB9 := hid (HB8.out.quiet hf9)
                      clear hf9 HB8 hp
                      go_wp2_with fail
                      refine (lshow_any HB9.out.r).mono ?_
                      rintro e w10 ⟨rfl, hf10⟩
                      have HB10 := hid (HB9.out.quiet hf10)
                      clear hf10 HB9
                      rw [showD_book]
                      go_upto_region 6 with fail
                      clear hz4 hz5
                      obtain ⟨hlt, hmx, hk0⟩ := HKL.out
                      go_wp2_with fail
                      exact ⟨⟨k + 1, ss, lb, P, _, l, by omega, rfl, rfl, by go_num, HB10.out⟩, by simp [intOf]; omega⟩
                    · clear hz4
                      obtain ⟨hlt, hmx, hk0⟩ := HKL.out
                      go_wp2_with fail
                      exact ⟨⟨k + 1, ss, lb, P, _, l, by omega, rfl, rfl, by go_num, HB7.out⟩, by simp [intOf]; omega⟩
            · have HTL := tail_any (opL (doS s o).lk 4 ++ ([32, 103, 101, 110, 61] ++ [L.dig ((doS s o).lk.gen 0), L.dig ((doS s o).lk.gen 1), L.dig ((doS s o).lk.gen 2), L.dig ((doS s o).lk.gen 3)])) ([32, 116, 114, 97, 99, 101, 61] ++ (doS s o).lk.tr) (by simp [opL_len]) (by have := HB5.out.r.rt.ok.len; simp; omega) w7
              rw [← show_tail] at HTL
              have hT : L.bs ([32, 116, 114, 97, 99, 101, 61] ++ (doS s o).lk.tr) = ⟨#[32, 116, 114, 97, 99, 101, 61]⟩ ++ L.bs (owT s o) := by
                unfold owT
                rw [if_pos hcl, ← L.bs_append]
                rfl
              rw [hT] at HTL
              have HTL := hid HTL
              clear hT hcl
              go_wp2_with fail
              refine HTL.out.mono ?_
              rintro e z ⟨rfl, hz⟩
              obtain rfl := hz.symm
              clear HTL hzl
              go_upto_region 36 with fail
              obtain ⟨ss, hss⟩ : ∃ ss : Led, ss = doS s o := ⟨_, rfl⟩
              rw [← hss] at HB5
              clear hss
              have hp := HB5.out.pb.c
              have ch := HB5.out.g.gh.c
              have hcn : (l.length : Int) = (ss.lk.cnt : Int) := by have := HB5.out.cn; omega
              go_upto_region 36 with fail
              go_region_held3 (fun W' => W'.cell? ⟨pB, 0, none⟩ = some (.pointer (some ⟨lb.T, 0, none⟩)) ∧ W'.cell? ⟨P, 9, none⟩ = some (.slice a7 l.length cap7)) (go_keep) (first | (go_at_call 30; refine (held_any HB5.out.r.rt.drew).mono ?_; rintro e z ⟨rfl, hz⟩; obtain rfl := hz.symm))
              go_upto_region 38 with fail
              have HB6 := hid (HB5.out.quiet ((Fr.refl (fun _ => False) w7).drew))
              clear hp ch HB5 hcn
              generalize w7.drew = w6 at *
              go_wp2_with fail
              go_loopw [18, 19] (fun tv i wi => ∃ j : Nat, j ≤ 4 ∧ tv = .string (L.bs (opL ss.lk j)) ∧ i = .int .i64 (j : Int) ∧ wi = w6) (fun _ i _ => 4 - (intOf i).toNat)
              case atStart => exact ⟨0, by omega, rfl, rfl, rfl⟩
              case round =>
                as_aux_lemma =>
                  obtain ⟨j, hj, rfl, rfl, hwr⟩ := hrel
                  obtain rfl := hwr.symm
                  have hj0 : (0 : Int) ≤ (j : Int) := by omega
                  have hsz : (L.bs (opL ss.lk j)).size ≤ 9 := by rw [Lbs_size, opL_len]; omega
                  by_cases hjl : j < 4
                  · have hjI : (j : Int) < 4 := by omega
                    have cm := (HB6.out.g.gm j hjl).c
                    rcases ho : ss.lk.op j with _ | _
                    · rw [ho] at cm
                      have HE : Hid (L.bs (opL ss.lk (j + 1)) = L.bs (opL ss.lk j) ++ ⟨#[48]⟩) := by
                        show L.bs (opL ss.lk j ++ [L.openD ss.lk j]) = _
                        rw [← L.bs_append]
                        unfold L.openD
                        rw [ho]
                        rfl
                      clear ho
                      go_wp2_with fail
                      exact ⟨⟨j + 1, by omega, by rw [HE.out], by go_num, by first | rfl | trivial⟩, by simp [intOf]; omega⟩
                    · rw [ho] at cm
                      have HE : Hid (L.bs (opL ss.lk (j + 1)) = L.bs (opL ss.lk j) ++ ⟨#[49]⟩) := by
                        show L.bs (opL ss.lk j ++ [L.openD ss.lk j]) = _
                        rw [← L.bs_append]
                        unfold L.openD
                        rw [ho]
                        rfl
                      clear ho
                      go_wp2_with fail
                      exact ⟨⟨j + 1, by omega, by rw [HE.out], by go_num, by first | rfl | trivial⟩, by simp [intOf]; omega⟩
                  · have hjI : ¬ (j : Int) < 4 := by omega
                    obtain rfl : j = 4 := by omega
                    have hp := HB6.out.pb.c
                    go_upto_region 45 with fail
                    go_upto_region 46 with (first | (go_at_call 25; refine (show_any HB6.out.r.rt).mono ?_; rintro e w7 ⟨rfl, hf7⟩) | fail)
                    have HB7 := hid (HB6.out.quiet hf7)
                    clear hf7 hp HB6
                    have hsh := show_open ss.lk
                    have hrl : (shR ss.lk).length ≤ 100 := by have := HB7.out.r.rt.ok.len; simp [shR]; omega
                    have hcut := cut_head (opL ss.lk 4) (shR ss.lk)
                    rw [← hsh] at hcut
                    have hz1 : (L.bs (opL ss.lk 4)).size = 9 := by rw [Lbs_size, opL_len]
                    have hz2 : (L.bs (L.showL ss.lk)).size = 9 + (shR ss.lk).length := by rw [Lbs_size, hsh]; simp [opL_len]
                    have hz4 : (L.bs (L.showL ss.lk)).size ≤ 200 := by omega
                    rw [show ((opL ss.lk 4).length : Int) = 9 by rw [opL_len]; rfl] at hcut
                    clear hsh hsz
                    generalize (shR ss.lk).length = lr at *
                    generalize hOP : L.bs (opL ss.lk 4) = sop at *
                    clear hOP
                    generalize hSH : L.bs (L.showL ss.lk) = ssh at *
                    have HSH := hid hSH
                    clear hSH hj hj0 hjl hjI
                    go_upto_region 48 with fail
                    clear hcut hz1 hz2 hrl
                    rw [← HSH.out]
                    rw [← HSH.out] at hz4
                    clear HSH
                    cases quiet
                    · go_wp2_with fail
                      refine (audit_any HB7.out.r).mono ?_
                      rintro e z ⟨rfl, hz⟩
                      obtain rfl := hz.symm
                      go_wp2_with fail
                      refine (books_any HB7.out.g HB7.out.r.bl HB7.out.r.ul).mono ?_
                      rintro e w8 ⟨rfl, hf8⟩
                      have HB8 := hid (HB7.out.quiet hf8)
                      have hp := HB8.out.pb.c
                      have hz5 : (L.bs (bookL ss)).size ≤ 200 := by rw [Lbs_size]; exact bookL_len _
                      clear hf8 HB7
                      go_wp2_with fail
                      refine (show_any HB8.out.r.rt).mono ?_
                      rintro e w9 ⟨rfl, hf9⟩
                      have HB9 := hid (HB8.out.quiet hf9)
                      clear hf9 HB8 hp
                      go_wp2_with fail
                      refine (lshow_any HB9.out.r).mono ?_
                      rintro e w10 ⟨rfl, hf10⟩
                      have HB10 := hid (HB9.out.quiet hf10)
                      clear hf10 HB9
                      rw [showD_book]
                      go_upto_region 6 with fail
                      clear hz4 hz5
                      obtain ⟨hlt, hmx, hk0⟩ := HKL.out
                      go_wp2_with fail
                      exact ⟨⟨k + 1, ss, lb, P, _, l, by omega, rfl, rfl, by go_num, HB10.out⟩, by simp [intOf]; omega⟩
                    · clear hz4
                      obtain ⟨hlt, hmx, hk0⟩ := HKL.out
                      go_wp2_with fail
                      exact ⟨⟨k + 1, ss, lb, P, _, l, by omega, rfl, rfl, by go_num, HB7.out⟩, by simp [intOf]; omega⟩
      · have hge : ¬ (k : Int) < 4398046511104 := hmx
        have HF := hid hB.f
        clear hB
        go_wp2_with fail
        go_ret
        exact ⟨rfl, HF.out⟩
    · have hge : ¬ (k : Int) < (len : Int) := by omega
      have HF := hid hB.f
      clear hB
      go_wp2_with fail
      go_ret
      exact ⟨rfl, HF.out⟩

end Go.Proofs.Qxb6500453a
