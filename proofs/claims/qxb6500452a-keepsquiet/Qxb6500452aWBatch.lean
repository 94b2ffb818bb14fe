/- The model of the ledger: Batch. -/
import Derived.Test.Qxb6500452aWBat1
namespace Go.Proofs.Qxb6500452a
open Go Go.RowKit
set_option maxRecDepth 100000
set_option maxHeartbeats 1600000
set_option linter.unusedSimpArgs false
set_option linter.unusedVariables false

theorem lkN_next {x : BS} {f t j : Nat} (hj : j < 2) (h : (lkN x f t j).1 = 0) : lkN x f t (j + 1) = lock1 (lkN x f t j).2 (if j = 0 then f else t) := by
  have : j = 0 ∨ j = 1 := by omega
  rcases this with rfl | rfl
  · rfl
  · have h' : (lock1 x f).1 = 0 := h
    rw [lkN_two x f t 0, if_neg (fun c => c h')]
    rfl
theorem lkN_stop {x : BS} {f t j : Nat} (hj : j < 2) (h : (lkN x f t (j + 1)).1 ≠ 0) : lkN x f t 2 = lkN x f t (j + 1) := by
  have : j = 0 ∨ j = 1 := by omega
  rcases this with rfl | rfl
  · have h' : (lock1 x f).1 ≠ 0 := h
    rw [lkN_two x f t 0, if_pos h']
    rfl
  · rfl
theorem lock1_mine {x : BS} {k : Nat} (h : x.mine k = true) : lock1 x k = (0, x) := by unfold lock1; rw [if_pos h]
theorem lock1_take {x : BS} {k : Nat} (h : x.mine k = false) (he : (L.acq x.lk (k : Int)).2.1 = 0) : lock1 x k = (0, ⟨(L.acq x.lk (k : Int)).2.2, L.updB x.mine k true, (L.acq x.lk (k : Int)).1 :: x.hs, x.bal, x.jr⟩) := by
  unfold lock1; rw [if_neg (by simp [h]), if_pos he]
theorem lock1_err {x : BS} {k : Nat} (h : x.mine k = false) (he : (L.acq x.lk (k : Int)).2.1 ≠ 0) : lock1 x k = ((L.acq x.lk (k : Int)).2.1, x) := by
  unfold lock1; rw [if_neg (by simp [h]), if_neg he]

theorem mbatch_any {w : World} {X M : Nat} {s : Led} (h : ML w X M s) {a : Option Addr} {ms : List Mv} (hm : MvsAt w a ms) (ha : ∀ B off, a = some ⟨B, off, none⟩ → ¬ SM X M B) (cap : Nat) :
    Calls Try.prog 104 #[.pointer (some ⟨X, 0, none⟩), .slice a ms.length cap] w fun e w' => e = .returned (.tuple #[.int .i64 (batN s ms), .int .i64 (batE s ms)]) ∧ ML w' X M (batS s ms) ∧ Fr (SM X M) w w' := by
  by_cases hlen : 3 < ms.length
  · have HN : Hid (batN s ms = 0 ∧ batE s ms = 1 ∧ batS s ms = s) := by simp [Hid, batN, batE, batS, hlen]
    have hl : (3 : Int) < (ms.length : Int) := by omega
    have H := hid h
    clear hm hlen h ha
    go_enter Try.func104, Try.ntmps104
    go_wp2_with fail
    go_ret2
    rw [HN.out.1, HN.out.2.1, HN.out.2.2]
    exact ⟨rfl, H.out, Fr.refl _ _⟩
  · have hl : ¬ (3 : Int) < (ms.length : Int) := by omega
    have hN : batN s ms = ((runB 0 ms s.start).1 : Int) := by unfold batN; rw [if_neg hlen]
    have hE : batE s ms = (runB 0 ms s.start).2.1 := by unfold batE; rw [if_neg hlen]
    have hS : batS s ms = endB s (runB 0 ms s.start) := by unfold batS; rw [if_neg hlen]
    rw [hN, hE, hS]
    clear hN hE hS
    have d0 := h.m0.c
    have H := hid h
    have HX : Hid (∀ i, SM X M i → i < w.heap.size) := h.lt
    have HM := hid hm
    have HAA := hid ha
    obtain ⟨len, hlq⟩ : ∃ len, len = ms.length := ⟨_, rfl⟩
    have HLQ := hid hlq
    have HL3 : Hid (ms.length ≤ 3) := by unfold Hid; omega
    rw [← hlq] at hl ⊢
    have hl3 : len ≤ 3 := by omega
    clear h hm hlen ha hlq
    go_enter Try.func104, Try.ntmps104
    go_wp2_with fail
    refine (mclear_any H.out.mt).mono ?_
    rintro e w1 ⟨rfl, r1, f1⟩
    have L1 := hid (H.out.lock r1 f1)
    have F1 : Hid (Fr (SM X M) w w1) := f1.mono (fun _ _ h => SM_of1 h)
    have b0 : w1.cell? ⟨X, 1, none⟩ = some (.int .i64 (s.bal 0)) := (L1.out.mb 0 (by omega)).c
    have b1 : w1.cell? ⟨X, 2, none⟩ = some (.int .i64 (s.bal 1)) := (L1.out.mb 1 (by omega)).c
    have b2 : w1.cell? ⟨X, 3, none⟩ = some (.int .i64 (s.bal 2)) := (L1.out.mb 2 (by omega)).c
    have b3 : w1.cell? ⟨X, 4, none⟩ = some (.int .i64 (s.bal 3)) := (L1.out.mb 3 (by omega)).c
    clear r1 f1
    go_wp2_with fail
    have BM1 : Hid (BM w ((w1.alloc (.cells #[.int .i64 (s.bal 0), .int .i64 (s.bal 1), .int .i64 (s.bal 2), .int .i64 (s.bal 3)] 109)).alloc (.cells #[.bool false, .bool false, .bool false, .bool false] 124)) X M s s.start (.slice none 0 0) (w1.heap.size + 1 + 1) w1.heap.size (w1.heap.size + 1)) := by
      have z1 := F1.out.size
      have fa : Fr (fun _ => False) w1 ((w1.alloc (.cells #[.int .i64 (s.bal 0), .int .i64 (s.bal 1), .int .i64 (s.bal 2), .int .i64 (s.bal 3)] 109)).alloc (.cells #[.bool false, .bool false, .bool false, .bool false] 124)) := ((Fr.refl _ _).alloc _).alloc _
      refine ⟨⟨L1.out.fr fa (fun _ _ h => h), OwnI.nil _ _, ⟨by omega, by simp⟩, by simp [Led.start], F1.out.then fa (fun _ _ h => h.elim)⟩, fun k hk => ?_, fun k hk => ?_, by omega, H.out.bl, H.out.tot⟩
      · refine At.alloc ?_ _
        have : k = 0 ∨ k = 1 ∨ k = 2 ∨ k = 3 := by omega
        rcases this with rfl | rfl | rfl | rfl <;> exact At.new w1 _ _ rfl
      · have am : ∀ k v, (#[.bool false, .bool false, .bool false, .bool false] : Array Value)[k]? = some v → At ((w1.alloc (.cells #[.int .i64 (s.bal 0), .int .i64 (s.bal 1), .int .i64 (s.bal 2), .int .i64 (s.bal 3)] 109)).alloc (.cells #[.bool false, .bool false, .bool false, .bool false] 124)) (w1.heap.size + 1) k v := fun k v hv => by
          have := At.new (w1.alloc (.cells #[.int .i64 (s.bal 0), .int .i64 (s.bal 1), .int .i64 (s.bal 2), .int .i64 (s.bal 3)] 109)) #[.bool false, .bool false, .bool false, .bool false] 124 hv
          simp only [World.size_alloc] at this
          exact this
        have : k = 0 ∨ k = 1 ∨ k = 2 ∨ k = 3 := by omega
        rcases this with rfl | rfl | rfl | rfl <;> exact am _ _ rfl
    clear b0 b1 b2 b3 L1 F1
    generalize (w1.alloc (.cells #[.int .i64 (s.bal 0), .int .i64 (s.bal 1), .int .i64 (s.bal 2), .int .i64 (s.bal 3)] 109)).alloc (.cells #[.bool false, .bool false, .bool false, .bool false] 124) = w2 at *
    generalize w1.heap.size + 1 + 1 = N at *
    generalize w1.heap.size + 1 = pm at *
    generalize w1.heap.size = pb at *
    clear d0
    go_loopw [7, 9, 10] (fun v e i wr => ∃ (ei : Int) (n : Nat) (x : BS), e = .int .i64 ei ∧ i = .int .i64 (n : Int) ∧ n ≤ len ∧ (ei = 0 → BM w wr X M s x v N pb pm) ∧ BF w wr X M s x.lk x.hs v N ∧ ((ei = 0 ∧ x.hs.length ≤ 2 * n ∧ runB n (ms.drop n) x = runB 0 ms s.start) ∨ (ei ≠ 0 ∧ runB 0 ms s.start = (n, ei, x)))) (fun _ e i _ => if intOf e = 0 then 1 + (len - (intOf i).toNat) else 0)
    case atStart => exact ⟨0, 0, s.start, rfl, rfl, by omega, fun _ => BM1.out, BM1.out.bf, .inl ⟨rfl, by simp [Led.start], by simp⟩⟩
    case round =>
      clear BM1
      obtain ⟨ei, n, x, rfl, rfl, hn, hbm, hbf, hcase⟩ := hrel
      have HBM := hid hbm
      have HBF := hid hbf
      have HCS := hid hcase
      clear hbm hbf hcase
      have hn0 : (0 : Int) ≤ (n : Int) := by omega
      by_cases hgo : ei = 0 ∧ n < len
      · obtain ⟨rfl, hlt⟩ := hgo
        have B1 := hid (HBM.out rfl)
        have HR : Hid (x.hs.length ≤ 2 * n ∧ runB n (ms.drop n) x = runB 0 ms s.start) := by
          rcases HCS.out with ⟨_, h⟩ | ⟨h, _⟩
          · exact h
          · exact absurd rfl h
        clear HBM HBF HCS
        have hlI : (n : Int) < (len : Int) := by omega
        have hml : n < ms.length := by have := HLQ.out; omega
        obtain hm | ⟨B, off, ea, hB, hc⟩ := HM.out
        · subst hm; simp at hml
        subst ea
        obtain ⟨c0, c1, c2⟩ := hc n hml
        have g0 := cellFr B1.out.bf.fr (p := ⟨B, off + n * 3, none⟩) (HAA.out B off rfl) c0
        have g1 := cellFr B1.out.bf.fr (p := ⟨B, off + n * 3 + 1, none⟩) (HAA.out B off rfl) c1
        have g2 := cellFr B1.out.bf.fr (p := ⟨B, off + n * 3 + 2, none⟩) (HAA.out B off rfl) c2
        have HD : Hid (ms.drop n = ms[n] :: ms.drop (n + 1)) := List.drop_eq_getElem_cons hml
        have HB : Hid (B < w.heap.size) := hB
        generalize ms[n] = m at *
        obtain ⟨mf, mt, ma⟩ := m
        simp only at g0 g1 g2 c0 c1 c2
        have HC3 : Hid (w.cell? ⟨B, off + n * 3, none⟩ = some (.int .i64 mf) ∧ w.cell? ⟨B, off + n * 3 + 1, none⟩ = some (.int .i64 mt) ∧ w.cell? ⟨B, off + n * 3 + 2, none⟩ = some (.int .i64 ma)) := ⟨c0, c1, c2⟩
        clear c0 c1 c2 hc hB
        go_wp2_with fail
        refine (mcheck_any mf mt ma _).mono ?_
        rintro e1 w4 ⟨rfl, f4⟩
        have B4 := hid (B1.out.quiet f4)
        have g0 := cellFr B4.out.bf.fr (p := ⟨B, off + n * 3, none⟩) (HAA.out B off rfl) HC3.out.1
        have g1 := cellFr B4.out.bf.fr (p := ⟨B, off + n * 3 + 1, none⟩) (HAA.out B off rfl) HC3.out.2.1
        have hB4 : B < w4.heap.size := Nat.lt_of_lt_of_le HB.out B4.out.bf.fr.size
        clear f4 B1 g2
        by_cases hc : chk mf mt ma = 0
        · have HC := hid hc
          obtain ⟨fn, tn, rfl, rfl, hf4, ht4, hft, a1, a2⟩ := chk_ok hc
          rw [hc]
          clear hc
          go_upto_region 11 with fail
          go_region
          go_upto_region 12 with fail
          have B5 := hid (B4.out.quiet (((Fr.refl (fun _ => False) w4).alloc (.cells #[.int .i64 (fn : Int), .int .i64 (tn : Int)] 125)).drew))
          have Q0 : Hid (At (w4.alloc (.cells #[.int .i64 (fn : Int), .int .i64 (tn : Int)] 125)).drew w4.heap.size 0 (.int .i64 (fn : Int))) := (At.new w4 _ _ (o := 0) rfl).drew
          have Q1 : Hid (At (w4.alloc (.cells #[.int .i64 (fn : Int), .int .i64 (tn : Int)] 125)).drew w4.heap.size 1 (.int .i64 (tn : Int))) := (At.new w4 _ _ (o := 1) rfl).drew
          have HQ : Hid (N ≤ w4.heap.size ∧ u7.ownBlock ≠ some w4.heap.size) := ⟨B4.out.bf.nl.2, fun e => by have := B4.out.bf.ow.lt e; omega⟩
          generalize (w4.alloc (.cells #[.int .i64 (fn : Int), .int .i64 (tn : Int)] 125)).drew = w5 at *
          generalize w4.heap.size = q at *
          clear B4 g0 g1 hB4
          go_wp2_with fail
          go_loopw [7, 9, 12] (fun v e j wi => ∃ (ei : Int) (jn : Nat), e = .int .i64 ei ∧ j = .int .i64 (jn : Int) ∧ jn ≤ 2 ∧ v.ownBlock ≠ some q ∧ At wi q 0 (.int .i64 (fn : Int)) ∧ At wi q 1 (.int .i64 (tn : Int)) ∧
            ((ei = 0 ∧ (lkN x fn tn jn).1 = 0 ∧ BM w wi X M s (lkN x fn tn jn).2 v N pb pm ∧ (lkN x fn tn jn).2.hs.length ≤ 2 * n + jn) ∨ (ei ≠ 0 ∧ (lkN x fn tn 2).1 = ei ∧ BF w wi X M s (lkN x fn tn 2).2.lk (lkN x fn tn 2).2.hs v N))) (fun _ e j _ => if intOf e = 0 then 1 + (2 - (intOf j).toNat) else 0)
          case atStart => exact ⟨0, 0, rfl, rfl, by omega, HQ.out.2, Q0.out, Q1.out, .inl ⟨rfl, rfl, B5.out, HR.out.1⟩⟩
          case round =>
            clear B5 Q0 Q1
            obtain ⟨ei, jn, rfl, rfl, hj2, hvq, q0, q1, hcs⟩ := hrel
            have HVQ := hid hvq
            have Q0 := hid q0
            have Q1 := hid q1
            have hj0 : (0 : Int) ≤ (jn : Int) := by omega
            clear hvq q0 q1
            rcases hcs with ⟨rfl, hz, hb, hsl⟩ | ⟨hne, hz, hbf⟩
            · by_cases hjlt : jn < 2
              · have hjI : (jn : Int) < 2 := by omega
                have HNX := hid (lkN_next hjlt hz)
                have HST := hid (fun h => lkN_stop (x := x) (f := fn) (t := tn) hjlt h)
                obtain ⟨k, hk4, hck, hkk⟩ : ∃ k : Nat, k < 4 ∧ At wr q jn (.int .i64 (k : Int)) ∧ k = (if jn = 0 then fn else tn) := by
                  have : jn = 0 ∨ jn = 1 := by omega
                  rcases this with rfl | rfl
                  · exact ⟨fn, hf4, Q0.out, rfl⟩
                  · exact ⟨tn, ht4, Q1.out, rfl⟩
                rw [← hkk] at HNX
                clear hkk
                generalize (lkN x fn tn jn).2 = y at *
                have HBY := hid hb
                have HSL := hid hsl
                have ck := hck.c
                have HCK := hid hck
                have cm := (hb.mn k hk4).c
                have xm := (hb.mn k hk4).f
                have hk0 : (0 : Int) ≤ (k : Int) := by omega
                have hkI : (k : Int) < 4 := by omega
                clear hb hsl hck hz
                rcases hmk : y.mine k with _ | _
                · rw [hmk] at cm
                  have d0 := HBY.out.bf.ml.m0.c
                  go_upto_region 17 with fail
                  go_region_held3 (fun W => W.cell? ⟨X, 0, none⟩ = some (.pointer (some ⟨M, 0, none⟩)) ∧ W.cell? ⟨q, jn, none⟩ = some (.int .i64 (k : Int))) (go_keep) (first | (go_at_call 108; refine (macquire_any HBY.out.bf.ml.mt.drew (k : Int)).mono ?_; rintro e z ⟨rfl, rz, gz⟩; have z0 : z.cell? ⟨X, 0, none⟩ = some (.pointer (some ⟨M, 0, none⟩)) := cellFr gz HBY.out.bf.ml.ne (by simp [*]); have z1 : z.cell? ⟨q, jn, none⟩ = some (.int .i64 (k : Int)) := cellFr gz (fun e => by have := HX.out q (.inr e); have := HQ.out.1; have := HBY.out.ds; omega) (by simp [*])))
                  have nq : ¬ S1 M q := fun e => by have := HX.out q (.inr e); have := HQ.out.1; have := HBY.out.ds; omega
                  have Bz := hid ((HBY.out.quiet ((Fr.refl (fun _ => False) wr).drew)).lock HX.out rz gz)
                  have R0 := hid (Q0.out.drew.fr gz nq)
                  have R1 := hid (Q1.out.drew.fr gz nq)
                  have HZQ : Hid (q < z.heap.size) := R0.out.lt
                  clear rz gz nq cm xm
                  by_cases hE : (L.acq y.lk (k : Int)).2.1 = 0
                  · have HL1 := hid (lock1_take hmk hE)
                    rw [HL1.out] at HNX
                    rw [hE]
                    have BO := hid (Bz.out.own HX.out (k := k))
                    have cm := (Bz.out.mn k hk4).c
                    have xm := (Bz.out.mn k hk4).f
                    simp only at cm
                    have hlen : y.hs.length ≤ 6 := HBY.out.bf.hl
                    have hNz : N ≤ z.heap.size := Bz.out.bf.nl.2
                    clear hE HL1 hmk
                    generalize (L.acq y.lk (k : Int)).1 = hh at *
                    go_wp2_with (first
                      | (at_builtin; refine wp_appI rfl rfl (v := u7) rfl (BO.out.bf.ow.fr ((Fr.refl (fun _ => False) _).alloc _) (fun _ _ h => h)) rfl (y := hh) (by have h := (At.new (z.setCell ⟨pm, k, none⟩ (.bool true)) #[.int .i64 hh] 3 (o := 0) rfl).c; simp only [World.size_setCell] at h; exact h) (by simp; omega) (by simp; omega) ?_; intro g cp w7 ow7 f7 hg7 hl7; go_frame)
                      | go_in)
                    have hsl := HSL.out
                    have hzq := HZQ.out
                    have hq1 := HQ.out.1
                    have hds := HBY.out.ds
                    have BN := (BO.out.quiet ((Fr.refl (fun _ => False) _).alloc (.cells #[.int .i64 hh] 3))).app HX.out (by simp only; omega) ow7 f7
                    have nq' : ∀ v, At z q v (.int .i64 (fn : Int)) → True := fun _ _ => trivial
                    refine ⟨⟨0, jn + 1, rfl, by go_num, by omega, ?_, (((R0.out.other (by omega) _).alloc _).fr f7 HVQ.out), (((R1.out.other (by omega) _).alloc _).fr f7 HVQ.out), .inl ⟨rfl, by rw [HNX.out], ?_, ?_⟩⟩, by simp [intOf]; omega⟩
                    · intro e
                      simp only [Value.ownBlock] at e
                      rcases hg7 with h7 | h7
                      · exact HVQ.out (h7.trans (by simpa using e))
                      · simp at e h7; omega
                    · rw [HNX.out]; exact BN
                    · rw [HNX.out]; simp; omega
                  · have HL1 := hid (lock1_err hmk hE)
                    rw [HL1.out] at HNX
                    have HES := hid hE
                    have hEb : ((L.acq y.lk (k : Int)).2.1 == 0) = false := by simp [hE]
                    have HQE := hid (acq_err (s := y.lk) (k := (k : Int)) hE)
                    clear hE HL1 hmk
                    go_wp2_with fail
                    have hst := HST.out (by rw [HNX.out]; exact HES.out)
                    rw [HNX.out] at hst
                    refine ⟨⟨_, jn + 1, rfl, by go_num, by omega, HVQ.out, R0.out, R1.out, .inr ⟨HES.out, by rw [hst], ?_⟩⟩, ?_⟩
                    · rw [hst]
                      have := Bz.out.bf
                      simp only at this
                      rw [HQE.out] at this
                      exact this
                    · have := HES.out
                      simp [intOf, this] <;> omega
                · rw [hmk] at cm
                  have HL1 := hid (lock1_mine hmk)
                  rw [HL1.out] at HNX
                  go_wp2_with fail
                  exact ⟨⟨0, jn + 1, rfl, by go_num, by omega, HVQ.out, Q0.out, Q1.out, .inl ⟨rfl, by rw [HNX.out], by rw [HNX.out]; exact HBY.out, by rw [HNX.out]; have := HSL.out; simp only; omega⟩⟩, by simp [intOf]; omega⟩
              · have hjI : ¬ (jn : Int) < 2 := by omega
                obtain rfl : jn = 2 := by omega
                have HMV := hid (move1_pay HC.out hz)
                have HSM := hid (lkN_same x fn tn 2)
                have HBY := hid hb
                have HSL := hid hsl
                clear hz hsl
                have h0 := cellFr hb.bf.fr (p := ⟨B, off + n * 3, none⟩) (HAA.out B off rfl) HC3.out.1
                have h1 := cellFr hb.bf.fr (p := ⟨B, off + n * 3 + 1, none⟩) (HAA.out B off rfl) HC3.out.2.1
                have h2 := cellFr hb.bf.fr (p := ⟨B, off + n * 3 + 2, none⟩) (HAA.out B off rfl) HC3.out.2.2
                generalize (lkN x fn tn 2).2 = y at *
                have HP := hid (mpay_any (w := wr) (B := pb) (off := 0) (bal := y.bal) (fun k hk => by rw [Nat.zero_add]; exact hb.bb k hk) hf4 ht4 hft a1 a2 hb.bl)
                clear hb
                go_wp2_with fail
                refine HP.out.mono ?_
                rintro e w7 ⟨rfl, yb, yo, f7⟩
                have BF7 : Hid (BF w w7 X M s y.lk y.hs u7 N) := by
                  have b := HBY.out
                  have hd := b.ds
                  exact ⟨b.bf.ml.fr f7 (fun i hi e => by have := HX.out i hi; omega), b.bf.ow.fr f7 (fun k hk e => by have := b.bf.ow.lt hk; omega), ⟨b.bf.nl.1, Nat.le_trans b.bf.nl.2 f7.size⟩, b.bf.hl, b.bf.fr.then f7 (fun i hi e => by omega)⟩
                have HMN : Hid (∀ k, k < 4 → At w7 pm k (.bool (y.mine k))) := fun k hk => (HBY.out.mn k hk).fr f7 (by have := HBY.out.ds; omega)
                have HYB := hid yb
                clear yb yo f7 HP
                have HRS : Hid (runB 0 ms s.start = if payE y.bal fn tn ma ≠ 0 then (n, payE y.bal fn tn ma, pay1 y fn tn ma) else runB (n + 1) (ms.drop (n + 1)) (pay1 y fn tn ma)) := by
                  have h := HR.out.2
                  rw [HD.out] at h
                  rw [← h]
                  show (if (move1 x ⟨(fn : Int), (tn : Int), ma⟩).1 ≠ 0 then (n, (move1 x ⟨(fn : Int), (tn : Int), ma⟩).1, (move1 x ⟨(fn : Int), (tn : Int), ma⟩).2) else runB (n + 1) (ms.drop (n + 1)) (move1 x ⟨(fn : Int), (tn : Int), ma⟩).2) = _
                  rw [HMV.out]
                clear HMV HR
                by_cases he : payE y.bal fn tn ma = 0
                · rw [if_neg (fun h => h he)] at HRS
                  have HPM : Hid (payM y.bal fn tn ma = payB y.bal fn tn ma) := by unfold Hid payM; rw [if_pos he]
                  have HTT : Hid (sum4 (payB y.bal fn tn ma) = 400) := (sum_pay hf4 ht4 hft he).trans HBY.out.tot
                  rw [he]
                  clear he
                  go_wp2_with fail
                  refine ⟨⟨0, n + 1, pay1 y fn tn ma, rfl, by go_num, by omega, fun _ => ⟨BF7.out, fun k hk => ?_, HMN.out, HBY.out.ds, payB_ok HBY.out.bl hf4 ht4 a1, HTT.out⟩, BF7.out, .inl ⟨rfl, by have := HSL.out; show y.hs.length ≤ _; omega, HRS.out.symm⟩⟩, by simp [intOf]; omega⟩
                  have := HYB.out k hk
                  rw [Nat.zero_add, HPM.out] at this
                  exact this
                · rw [if_pos he] at HRS
                  have HE := hid he
                  have heb : (payE y.bal fn tn ma == 0) = false := by simp [he]
                  clear he
                  go_wp2_with fail
                  refine ⟨⟨_, n, pay1 y fn tn ma, rfl, rfl, by omega, fun h => absurd h HE.out, BF7.out, .inr ⟨HE.out, HRS.out⟩⟩, ?_⟩
                  have := HE.out
                  simp [intOf, this] <;> omega
            · have heb : (ei == 0) = false := by simp [hne]
              have HNE := hid hne
              have HBF := hid hbf
              have HRS : Hid (runB 0 ms s.start = (n, ei, (lkN x fn tn 2).2)) := by
                have h := HR.out.2
                rw [HD.out] at h
                rw [← h]
                show (if (move1 x ⟨(fn : Int), (tn : Int), ma⟩).1 ≠ 0 then (n, (move1 x ⟨(fn : Int), (tn : Int), ma⟩).1, (move1 x ⟨(fn : Int), (tn : Int), ma⟩).2) else runB (n + 1) (ms.drop (n + 1)) (move1 x ⟨(fn : Int), (tn : Int), ma⟩).2) = _
                rw [move1_lock HC.out (by rw [hz]; exact hne), hz, if_pos hne]
              clear hne hbf hz
              generalize (lkN x fn tn 2).2 = y at *
              by_cases hjlt : (jn : Int) < 2
              all_goals
                go_wp2_with fail
                refine ⟨⟨_, n, y, rfl, rfl, by omega, fun h => absurd h HNE.out, HBF.out, .inr ⟨HNE.out, HRS.out⟩⟩, ?_⟩
                have := HNE.out
                simp [intOf, this] <;> omega
        · have HCN := hid hc
          have hcb : (chk mf mt ma == 0) = false := by simp [hc]
          have HRS : Hid (runB 0 ms s.start = (n, chk mf mt ma, x)) := by
            have h := HR.out.2
            rw [HD.out] at h
            rw [← h]
            show (if (move1 x ⟨mf, mt, ma⟩).1 ≠ 0 then (n, (move1 x ⟨mf, mt, ma⟩).1, (move1 x ⟨mf, mt, ma⟩).2) else runB (n + 1) (ms.drop (n + 1)) (move1 x ⟨mf, mt, ma⟩).2) = _
            have hm1 : move1 x ⟨mf, mt, ma⟩ = (chk mf mt ma, x) := by unfold move1; rw [if_pos hc]
            rw [hm1, if_pos hc]
          clear hc
          generalize chk mf mt ma = ce at *
          go_upto_region 11 with fail
          go_region
          go_upto_region 12 with fail
          have B5 := hid (B4.out.quiet (((Fr.refl (fun _ => False) w4).alloc (.cells #[.int .i64 mf, .int .i64 mt] 125)).drew))
          generalize (w4.alloc (.cells #[.int .i64 mf, .int .i64 mt] 125)).drew = w5 at *
          generalize w4.heap.size = q at *
          clear B4 g0 g1 hB4
          go_wp2_with fail
          go_loopw [7, 9, 12] (fun v e j wi => v = u7 ∧ e = .int .i64 ce ∧ j = .int .i64 0 ∧ wi = w5) (fun _ _ _ _ => 0)
          case atStart => exact ⟨rfl, rfl, rfl, rfl⟩
          case round =>
            obtain ⟨rfl, rfl, rfl, hwr⟩ := hrel
            obtain rfl := hwr.symm
            go_wp2_with fail
            refine ⟨⟨_, n, x, rfl, rfl, by omega, fun h => absurd h HCN.out, B5.out.bf, .inr ⟨HCN.out, HRS.out⟩⟩, ?_⟩
            have := HCN.out
            simp [intOf, this] <;> omega
      · have HZ : Hid (ei = 0 → n = len) := fun h => by
          have : ¬ n < len := fun c => hgo ⟨h, c⟩
          omega
        obtain ⟨a7, cap7, hv, hcl⟩ : ∃ a7 cap7, u7 = .slice a7 x.hs.length cap7 ∧ ∀ j, j < x.hs.length → ∃ g, a7 = some ⟨g, 0, none⟩ ∧ u7.ownBlock = some g := by
          rcases HBF.out.ow.empty with ⟨h1, h2⟩ | ⟨g, cp, h1, _⟩
          · have : x.hs = [] := by simpa using h2
            exact ⟨none, 0, by rw [h1, this]; rfl, fun j hj => by rw [this] at hj; exact absurd hj (by simp)⟩
          · exact ⟨some ⟨g, 0, none⟩, cp, by rw [h1, List.length_reverse], fun j hj => ⟨g, rfl, by rw [h1]; rfl⟩⟩
        subst hv
        have HCL := hid hcl
        have hlen : (x.hs.length : Int) ≤ 6 := by have := HBF.out.hl; omega
        have hlen0 : (0 : Int) ≤ (x.hs.length : Int) := by omega
        clear hcl
        obtain ⟨hni, heb⟩ | hni : ((n : Int) < (len : Int) ∧ (ei == 0) = false) ∨ ¬ (n : Int) < (len : Int) := by
          by_cases hni : (n : Int) < (len : Int)
          · refine .inl ⟨hni, ?_⟩
            simp only [beq_eq_false_iff_ne]
            exact fun c => hgo ⟨c, by omega⟩
          · exact .inr hni
        all_goals
          clear hgo
          go_upto_region 26 with fail
          go_loopw [14] (fun jv wi => ∃ (m : Nat) (lk : L.St), jv = .int .i64 ((m : Int) - 1) ∧ m ≤ x.hs.length ∧ relAll (x.hs.drop (x.hs.length - m)) lk = relAll x.hs x.lk ∧ BF w wi X M s lk x.hs (.slice a7 x.hs.length cap7) N ∧ (ei = 0 → BM w wi X M s ⟨lk, x.mine, x.hs, x.bal, x.jr⟩ (.slice a7 x.hs.length cap7) N pb pm)) (fun jv _ => (intOf jv + 1).toNat)
          case atStart => exact ⟨x.hs.length, x.lk, by go_num, Nat.le_refl _, by simp, HBF.out, HBM.out⟩
          case round =>
            clear HBF HBM
            obtain ⟨m, lk, rfl, hmle, hrl, hbf, hbm⟩ := hrel
            have HRL := hid hrl
            have HBF := hid hbf
            have HBM := hid hbm
            clear hrl hbf hbm
            rcases m with _ | j
            · have hlk : lk = relAll x.hs x.lk := by
                have := HRL.out
                rw [Nat.sub_zero, List.drop_length] at this
                exact this
              subst hlk
              clear HRL
              by_cases hz : ei = 0
              · subst hz
                have BB := hid (HBM.out rfl)
                have HRS : Hid (runB 0 ms s.start = (len, 0, x)) := by
                  have hn := HZ.out rfl
                  rcases HCS.out with ⟨_, _, h⟩ | ⟨h, _⟩
                  · rw [← h, hn, HLQ.out, List.drop_length]; rfl
                  · exact absurd rfl h
                have a0 := (BB.out.bb 0 (by omega)).c
                have a1 := (BB.out.bb 1 (by omega)).c
                have a2 := (BB.out.bb 2 (by omega)).c
                have a3 := (BB.out.bb 3 (by omega)).c
                have b0 := (HBF.out.ml.mb 0 (by omega)).c
                have b1 := (HBF.out.ml.mb 1 (by omega)).c
                have b2 := (HBF.out.ml.mb 2 (by omega)).c
                have b3 := (HBF.out.ml.mb 3 (by omega)).c
                have x0 := (HBF.out.ml.mb 0 (by omega)).f
                have x1 := (HBF.out.ml.mb 1 (by omega)).f
                have x2 := (HBF.out.ml.mb 2 (by omega)).f
                have x3 := (HBF.out.ml.mb 3 (by omega)).f
                simp only at a0 a1 a2 a3 b0 b1 b2 b3 x0 x1 x2 x3
                clear HCS HBM
                go_wp2_with fail
                go_ret2
                rw [HRS.out]
                have l := HBF.out.ml
                have hf : Fr (fun i => i = X) wr ((((wr.setCell ⟨X, 1, none⟩ (.int .i64 (x.bal 0))).setCell ⟨X, 2, none⟩ (.int .i64 (x.bal 1))).setCell ⟨X, 3, none⟩ (.int .i64 (x.bal 2))).setCell ⟨X, 4, none⟩ (.int .i64 (x.bal 3))) :=
                  ((((Fr.refl (fun i => i = X) wr).setCell (p := ⟨X, 1, none⟩) (fun _ => rfl) _).setCell (p := ⟨X, 2, none⟩) (fun _ => rfl) _).setCell (p := ⟨X, 3, none⟩) (fun _ => rfl) _).setCell (p := ⟨X, 4, none⟩) (fun _ => rfl) _
                refine ⟨rfl, ?_, HBF.out.fr.trans (hf.mono (fun _ _ e => .inl e))⟩
                show ML _ X M ⟨relAll x.hs x.lk, x.bal, s.un⟩
                refine ⟨(((l.m0.other (by omega) _).other (by omega) _).other (by omega) _).other (by omega) _, fun k hk => ?_, (((l.mu.other (by omega) _).other (by omega) _).other (by omega) _).other (by omega) _, l.mt.fr hf (fun e => l.ne e.symm), l.ne, BB.out.bl, l.ul, BB.out.tot⟩
                have : k = 0 ∨ k = 1 ∨ k = 2 ∨ k = 3 := by omega
                rcases this with rfl | rfl | rfl | rfl
                · exact ((((l.mb 0 (by omega)).same _).other (by omega) _).other (by omega) _).other (by omega) _
                · exact ((((l.mb 1 (by omega)).other (by omega) _).same _).other (by omega) _).other (by omega) _
                · exact ((((l.mb 2 (by omega)).other (by omega) _).other (by omega) _).same _).other (by omega) _
                · exact ((((l.mb 3 (by omega)).other (by omega) _).other (by omega) _).other (by omega) _).same _
              · have HRS : Hid (runB 0 ms s.start = (n, ei, x)) := by
                  rcases HCS.out with ⟨h, _⟩ | ⟨_, h⟩
                  · exact absurd h hz
                  · exact h
                have HFL := hid (run_fail HRS.out hz)
                have hzb : (ei != 0) = true := by simp [hz]
                have HNZ := hid hz
                clear hz HBM HCS
                have u5 := HBF.out.ml.mu.c
                have x5 := HBF.out.ml.mu.f
                simp only at u5
                by_cases hbp : 0 < n ∨ ei = 7
                · rw [if_pos hbp] at HFL
                  obtain hp | ⟨rfl, hs7⟩ : ((0 : Int) < (n : Int)) ∨ (n = 0 ∧ (ei == 7) = true) := by
                    rcases hbp with h | h
                    · exact .inl (by omega)
                    · by_cases h0 : 0 < n
                      · exact .inl (by omega)
                      · exact .inr ⟨by omega, by simp [h]⟩
                  all_goals
                    clear hbp
                    go_wp2_with fail
                    refine (bump_any s.un wr).mono ?_
                    rintro e y ⟨rfl, hy⟩
                    obtain rfl := hy.symm
                    go_wp2_with fail
                    go_ret2
                    rw [HRS.out, HFL.out]
                    have l4 := HBF.out.ml
                    have hu := l4.ul
                    refine ⟨rfl, ⟨l4.m0.other (by omega) _, fun k hk => (l4.mb k hk).other (by omega) _, l4.mu.same _, l4.mt.fr ((Fr.refl (fun i => i = X) wr).setCell (p := ⟨X, 5, none⟩) (fun _ => rfl) _) (fun e => l4.ne e.symm), l4.ne, l4.bl, ?_, l4.tot⟩, HBF.out.fr.setCell (p := ⟨X, 5, none⟩) (fun _ => .inl rfl) _⟩
                    show bump s.un ≤ 99
                    unfold bump
                    simp only at hu
                    split <;> omega
                · rw [if_neg hbp] at HFL
                  obtain rfl : n = 0 := by
                    have : ¬ 0 < n := fun c => hbp (.inl c)
                    omega
                  have hs7 : (ei == 7) = false := by
                    simp only [beq_eq_false_iff_ne]
                    exact fun c => hbp (.inr c)
                  clear hbp
                  go_wp2_with fail
                  go_ret2
                  rw [HRS.out, HFL.out]
                  exact ⟨rfl, HBF.out.ml, HBF.out.fr⟩
            · have hj1 : ((j + 1 : Nat) : Int) - 1 = (j : Int) := by omega
              rw [hj1]
              have hj0 : (0 : Int) ≤ (j : Int) := by omega
              have hjl : (j : Int) < (x.hs.length : Int) := by omega
              have hjl' : j < x.hs.length := by omega
              obtain ⟨g, rfl, hown⟩ := HCL.out j hjl'
              have cg := (HBF.out.ow.cell (by simp) (j := j) (by simpa using hjl')).c
              have xg := HBF.out.low HX.out hown
              have d0 := HBF.out.ml.m0.c
              obtain ⟨hh, hhq⟩ : ∃ hh, hh = x.hs.reverse.getD j 0 := ⟨_, rfl⟩
              have HDR : Hid (x.hs.drop (x.hs.length - (j + 1)) = hh :: x.hs.drop (x.hs.length - j)) := by
                unfold Hid
                rw [List.drop_eq_getElem_cons (by omega), hhq]
                congr 1
                · have e : x.hs.reverse.getD j 0 = x.hs.reverse[j]'(by simpa using hjl') := by simp [List.getD, hjl']
                  rw [e, List.getElem_reverse]
                  congr 1
                  omega
                · congr 1
                  omega
              rw [← hhq] at cg
              clear hhq hj1
              have HMT := hid (HBF.out.ml.mt)
              go_upto_region 28 with fail
              go_region_held3 (fun W => W.cell? ⟨X, 0, none⟩ = some (.pointer (some ⟨M, 0, none⟩)) ∧ W.cell? ⟨g, j, none⟩ = some (.int .i64 hh)) (go_keep) (first | (go_at_call 109; refine (mrelease_any HMT.out.drew hh).mono ?_; rintro e z ⟨rfl, rz, gz⟩; have z0 : z.cell? ⟨X, 0, none⟩ = some (.pointer (some ⟨M, 0, none⟩)) := cellFr gz HBF.out.ml.ne (by simp [*]); have z1 : z.cell? ⟨g, j, none⟩ = some (.int .i64 hh) := cellFr gz (fun c => xg (.inr c)) (by simp [*])))
              go_wp2_with fail
              refine ⟨⟨j, (L.rel lk hh).2, rfl, by omega, ?_, (HBF.out.quiet ((Fr.refl (fun _ => False) wr).drew)).lock HX.out rz gz, fun hz => ((HBM.out hz).quiet ((Fr.refl (fun _ => False) wr).drew)).lock HX.out rz gz⟩, by simp [intOf] <;> omega⟩
              have := HRL.out
              rw [HDR.out] at this
              exact this

end Go.Proofs.Qxb6500452a
