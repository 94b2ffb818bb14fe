/- What the law owes: OwedBatch. -/
import Derived.Test.Qxb6500453aZTran
import Derived.Test.Qxb6500453aWBatch
namespace Go.Proofs.Qxb6500453a
open Go Go.RowKit
set_option maxRecDepth 100000
set_option maxHeartbeats 1600000
set_option linter.unusedSimpArgs false
set_option linter.unusedVariables false

/-- OwedBatch under way: the books, its own copies. -/
structure OB (w0 w : World) (P pa pb pm : Nat) (s : Led) (v : Value) (x : BS) : Prop where
  gh : GH w P s.bal s.un s.lk.op v
  bb : ∀ k, k < 4 → At w pb k (.int .i64 (x.bal k))
  mn : ∀ k, k < 4 → At w pm k (.bool (x.mine k))
  bx : Box w pa
  fr : Fr (fun _ => False) w0 w
  bl : ∀ k, k < 4 → 0 ≤ x.bal k ∧ x.bal k ≤ 250
section
variable {w0 w w' : World} {P pa pb pm : Nat} {s : Led} {v : Value} {x : BS}
theorem OB.quiet (h : OB w0 w P pa pb pm s v x) (hf : Fr (fun _ => False) w w') : OB w0 w' P pa pb pm s v x :=
  ⟨h.gh.fr hf (fun h => h), fun k hk => (h.bb k hk).fr hf (fun h => h), fun k hk => (h.mn k hk).fr hf (fun h => h), h.bx.fr hf (fun h => h), h.fr.trans hf, h.bl⟩
theorem OB.own (h : OB w0 w P pa pb pm s v x) (d : P < w0.heap.size ∧ pa = w0.heap.size ∧ pb = pa + 1 ∧ pm = pa + 2) {k : Nat} (hk : k < 4) {lk : L.St} {hs : List Int} : OB w0 (w.setCell ⟨pm, k, none⟩ (.bool true)) P pa pb pm s v ⟨lk, L.updB x.mine k true, hs, x.bal, x.jr⟩ := by
  have hf : Fr (fun i => i = pm) w (w.setCell ⟨pm, k, none⟩ (.bool true)) := in_fr pm k (.bool true) (Fr.refl _ w)
  refine ⟨h.gh.fr hf (by omega), fun j hj => (h.bb j hj).fr hf (by omega), fun j hj => ?_, h.bx.fr hf (by omega), h.fr.then hf (fun i hi e => by omega), h.bl⟩
  by_cases e : j = k
  · subst e
    exact ((h.mn j hj).same _).val (by simp [L.updB])
  · exact ((h.mn j hj).other (fun _ c => e c.symm) _).val (by simp [L.updB, e])
end
theorem lock1_bal (x : BS) (k : Nat) : (lock1 x k).2.bal = x.bal ∧ (lock1 x k).2.jr = x.jr := lock1_same x k

theorem evs_took (k : Nat) (ks : List Nat) : L.bs (evs 65 ks.reverse) ++ L.bs [65, L.dig k] = L.bs (evs 65 (k :: ks).reverse) := by
  rw [L.bs_append, List.reverse_cons, evs_append]; rfl
theorem evs_back (k : Nat) (ks : List Nat) : L.bs [82, L.dig k] ++ L.bs (evs 82 ks) = L.bs (evs 82 (k :: ks)) := by
  rw [L.bs_append]; rfl
theorem evs_size (c : UInt8) (ks : List Nat) : (L.bs (evs c ks)).size = 2 * ks.length := by rw [bs_size, evs_len]

theorem obatch_any {w : World} {P : Nat} {s : Led} {v : Value} (g : GH w P s.bal s.un s.lk.op v) (ok : s.lk.Ok) (bl : ∀ k, k < 4 → 0 ≤ s.bal k ∧ s.bal k ≤ 250) {a : Option Addr} {ms : List Mv} (hm : MvsAt w a ms) (hl : ms.length ≤ 3) (ha : ∀ B off, a = some ⟨B, off, none⟩ → B ≠ P) (cap : Nat) :
    Calls Try.prog 55 #[.pointer (some ⟨P, 0, none⟩), .slice a ms.length cap] w fun e w' => e = .returned (.tuple #[ansV (batE s ms) (batN s ms) 0 ⟨#[]⟩, .string (L.bs (batS s ms).lk.tr)]) ∧
      GH w' P (batS s ms).bal (batS s ms).un s.lk.op v ∧ Kept s.lk (batS s ms).lk ∧ Fr (fun i => i = P) w w' := by
  have hN : batN s ms = ((runB 0 ms s.start).1 : Int) := by unfold batN; rw [if_neg (by omega)]
  have hE : batE s ms = (runB 0 ms s.start).2.1 := by unfold batE; rw [if_neg (by omega)]
  have hS : batS s ms = endB s (runB 0 ms s.start) := by unfold batS; rw [if_neg (by omega)]
  rw [hN, hE, hS]
  clear hN hE hS
  have HK0 := hid (L.clear_ok ok)
  have HM := hid hm
  have HAA := hid ha
  have HG := hid g
  have BL := hid bl
  have b0 := (g.gb 0 (by omega)).c
  have b1 := (g.gb 1 (by omega)).c
  have b2 := (g.gb 2 (by omega)).c
  have b3 := (g.gb 3 (by omega)).c
  have hP : P < w.heap.size := g.lt
  obtain ⟨len, hlq⟩ : ∃ len, len = ms.length := ⟨_, rfl⟩
  have HLQ := hid hlq
  rw [← hlq] at hl ⊢
  clear ok hm ha g bl hlq
  go_enter Try.func55, Try.ntmps55
  go_upto_region 3 with fail
  have O1 : Hid (OB w (((w.alloc (.cells #[.int .i64 0, .int .i64 0, .int .i64 0, .string ⟨#[]⟩] 51)).alloc (.cells #[.int .i64 (s.bal 0), .int .i64 (s.bal 1), .int .i64 (s.bal 2), .int .i64 (s.bal 3)] 55)).alloc (.cells #[.bool false, .bool false, .bool false, .bool false] 56)) P w.heap.size (w.heap.size + 1) (w.heap.size + 2) s v s.start) := by
    have f3 : Fr (fun _ => False) w (((w.alloc (.cells #[.int .i64 0, .int .i64 0, .int .i64 0, .string ⟨#[]⟩] 51)).alloc (.cells #[.int .i64 (s.bal 0), .int .i64 (s.bal 1), .int .i64 (s.bal 2), .int .i64 (s.bal 3)] 55)).alloc (.cells #[.bool false, .bool false, .bool false, .bool false] 56)) := (((Fr.refl _ _).alloc _).alloc _).alloc _
    refine ⟨HG.out.fr f3 (fun h => h), fun k hk => ?_, fun k hk => ?_, ((Box.new w).fr ((Fr.refl (fun _ => False) _).alloc _) (fun h => h)).fr ((Fr.refl (fun _ => False) _).alloc _) (fun h => h), f3, BL.out⟩
    · have ab : ∀ k u, (#[.int .i64 (s.bal 0), .int .i64 (s.bal 1), .int .i64 (s.bal 2), .int .i64 (s.bal 3)] : Array Value)[k]? = some u → At (((w.alloc (.cells #[.int .i64 0, .int .i64 0, .int .i64 0, .string ⟨#[]⟩] 51)).alloc (.cells #[.int .i64 (s.bal 0), .int .i64 (s.bal 1), .int .i64 (s.bal 2), .int .i64 (s.bal 3)] 55)).alloc (.cells #[.bool false, .bool false, .bool false, .bool false] 56)) (w.heap.size + 1) k u := fun k u hu => by
        have := (At.new (w.alloc (.cells #[.int .i64 0, .int .i64 0, .int .i64 0, .string ⟨#[]⟩] 51)) #[.int .i64 (s.bal 0), .int .i64 (s.bal 1), .int .i64 (s.bal 2), .int .i64 (s.bal 3)] 55 hu).alloc (.cells #[.bool false, .bool false, .bool false, .bool false] 56)
        simp only [World.size_alloc] at this
        exact this
      have : k = 0 ∨ k = 1 ∨ k = 2 ∨ k = 3 := by omega
      rcases this with rfl | rfl | rfl | rfl <;> exact ab _ _ rfl
    · have am : ∀ k u, (#[.bool false, .bool false, .bool false, .bool false] : Array Value)[k]? = some u → At (((w.alloc (.cells #[.int .i64 0, .int .i64 0, .int .i64 0, .string ⟨#[]⟩] 51)).alloc (.cells #[.int .i64 (s.bal 0), .int .i64 (s.bal 1), .int .i64 (s.bal 2), .int .i64 (s.bal 3)] 55)).alloc (.cells #[.bool false, .bool false, .bool false, .bool false] 56)) (w.heap.size + 2) k u := fun k u hu => by
        have := At.new ((w.alloc (.cells #[.int .i64 0, .int .i64 0, .int .i64 0, .string ⟨#[]⟩] 51)).alloc (.cells #[.int .i64 (s.bal 0), .int .i64 (s.bal 1), .int .i64 (s.bal 2), .int .i64 (s.bal 3)] 55)) #[.bool false, .bool false, .bool false, .bool false] 56 hu
        simp only [World.size_alloc] at this
        exact this
      have : k = 0 ∨ k = 1 ∨ k = 2 ∨ k = 3 := by omega
      rcases this with rfl | rfl | rfl | rfl <;> exact am _ _ rfl
  generalize ((w.alloc (.cells #[.int .i64 0, .int .i64 0, .int .i64 0, .string ⟨#[]⟩] 51)).alloc (.cells #[.int .i64 (s.bal 0), .int .i64 (s.bal 1), .int .i64 (s.bal 2), .int .i64 (s.bal 3)] 55)).alloc (.cells #[.bool false, .bool false, .bool false, .bool false] 56) = w1 at *
  rw [show w.heap.size + 2 = w.heap.size + 1 + 1 from rfl] at O1
  obtain ⟨pm, hpm⟩ : ∃ pm, pm = w.heap.size + 1 + 1 := ⟨_, rfl⟩
  obtain ⟨pb, hpb⟩ : ∃ pb, pb = w.heap.size + 1 := ⟨_, rfl⟩
  obtain ⟨pa, hpa⟩ : ∃ pa, pa = w.heap.size := ⟨_, rfl⟩
  rw [← hpm, ← hpb, ← hpa] at O1
  rw [← hpm, ← hpb, ← hpa]
  have HD : Hid (P < w.heap.size ∧ pa = w.heap.size ∧ pb = pa + 1 ∧ pm = pa + 2) := ⟨hP, hpa, by omega, by omega⟩
  have haP : P ≠ pa := by omega
  clear hpm hpb hpa b0 b1 b2 b3
  go_wp2_with fail
  go_loopw [8, 9, 10] (fun tk bk i wr => ∃ (n : Nat) (x : BS) (ks : List Nat), tk = .string (L.bs (evs 65 ks.reverse)) ∧ bk = .string (L.bs (evs 82 ks)) ∧ i = .int .i64 (n : Int) ∧ n ≤ len ∧ BK (L.clear s.lk) x ks ∧ ks.length ≤ 2 * n ∧ OB w wr P pa pb pm s v x ∧ runB n (ms.drop n) x = runB 0 ms s.start) (fun _ _ i _ => len - (intOf i).toNat)
  case atStart => exact ⟨0, s.start, [], rfl, rfl, rfl, by omega, bk_start s, by simp, O1.out, by simp⟩
  case round =>
    clear O1
    obtain ⟨n, x, ks, rfl, rfl, rfl, hn, hbk, hks, hob, hrun⟩ := hrel
    have BKx := hid hbk
    have OBx := hid hob
    have HR := hid hrun
    have HKS := hid hks
    have hn0 : (0 : Int) ≤ (n : Int) := by omega
    clear hbk hob hrun hks
    by_cases hlt : n < len
    · have hltI : (n : Int) < (len : Int) := by omega
      have hml : n < ms.length := by have := HLQ.out; omega
      obtain hm | ⟨B, off, ea, hB, hc⟩ := HM.out
      · subst hm; simp at hml
      subst ea
      have nB := HAA.out B off rfl
      obtain ⟨c0, c1, c2⟩ := hc n hml
      have g0 := cellFr OBx.out.fr (p := ⟨B, off + n * 3, none⟩) (fun h => h) c0
      have g1 := cellFr OBx.out.fr (p := ⟨B, off + n * 3 + 1, none⟩) (fun h => h) c1
      have g2 := cellFr OBx.out.fr (p := ⟨B, off + n * 3 + 2, none⟩) (fun h => h) c2
      have HDR : Hid (ms.drop n = ms[n] :: ms.drop (n + 1)) := List.drop_eq_getElem_cons hml
      have HB : Hid (B < w.heap.size) := hB
      generalize ms[n] = m at *
      obtain ⟨mf, mt, ma⟩ := m
      simp only at g0 g1 g2 c0 c1 c2
      have HC3 : Hid (w.cell? ⟨B, off + n * 3, none⟩ = some (.int .i64 mf) ∧ w.cell? ⟨B, off + n * 3 + 1, none⟩ = some (.int .i64 mt) ∧ w.cell? ⟨B, off + n * 3 + 2, none⟩ = some (.int .i64 ma)) := ⟨c0, c1, c2⟩
      have HL3 : Hid (n ≤ 2) := by unfold Hid; omega
      clear c0 c1 c2 hc hB
      go_wp2_with fail
      refine (plain_any mf mt ma _).mono ?_
      rintro e1 w4 ⟨rfl, f4⟩
      have O4 := hid (OBx.out.quiet f4)
      have g0 := cellFr O4.out.fr (p := ⟨B, off + n * 3, none⟩) (fun h => h) HC3.out.1
      have g1 := cellFr O4.out.fr (p := ⟨B, off + n * 3 + 1, none⟩) (fun h => h) HC3.out.2.1
      have hB4 : B < w4.heap.size := Nat.lt_of_lt_of_le HB.out O4.out.fr.size
      clear f4 OBx g2
      by_cases hc : chk mf mt ma = 0
      · have HC := hid hc
        obtain ⟨fn, tn, rfl, rfl, hf4, ht4, hft, a1, a2⟩ := chk_ok hc
        rw [hc]
        clear hc
        go_upto_region 8 with fail
        go_region
        go_upto_region 9 with fail
        have O5 := hid (O4.out.quiet (((Fr.refl (fun _ => False) w4).alloc (.cells #[.int .i64 (fn : Int), .int .i64 (tn : Int)] 77)).drew))
        have Q0 : Hid (At (w4.alloc (.cells #[.int .i64 (fn : Int), .int .i64 (tn : Int)] 77)).drew w4.heap.size 0 (.int .i64 (fn : Int))) := (At.new w4 _ _ (o := 0) rfl).drew
        have Q1 : Hid (At (w4.alloc (.cells #[.int .i64 (fn : Int), .int .i64 (tn : Int)] 77)).drew w4.heap.size 1 (.int .i64 (tn : Int))) := (At.new w4 _ _ (o := 1) rfl).drew
        have HQ : Hid (pm < w4.heap.size) := (O4.out.mn 0 (by omega)).lt
        generalize (w4.alloc (.cells #[.int .i64 (fn : Int), .int .i64 (tn : Int)] 77)).drew = w5 at *
        generalize w4.heap.size = q at *
        clear O4 g0 g1 hB4
        go_wp2_with fail
        go_loopw [8, 9, 11, 13] (fun tk bk e j wi => ∃ (ei : Int) (jn : Nat) (y : BS) (ks : List Nat), tk = .string (L.bs (evs 65 ks.reverse)) ∧ bk = .string (L.bs (evs 82 ks)) ∧ e = .int .i64 ei ∧ j = .int .i64 (jn : Int) ∧ jn ≤ 2 ∧ At wi q 0 (.int .i64 (fn : Int)) ∧ At wi q 1 (.int .i64 (tn : Int)) ∧ BK (L.clear s.lk) y ks ∧ ks.length ≤ 2 * n + jn ∧ OB w wi P pa pb pm s v y ∧
          ((ei = 0 ∧ lkN x fn tn jn = (0, y)) ∨ (ei ≠ 0 ∧ lkN x fn tn 2 = (ei, y)))) (fun _ _ e j _ => if intOf e = 0 then 1 + (2 - (intOf j).toNat) else 0)
        case atStart => exact ⟨0, 0, x, ks, rfl, rfl, rfl, rfl, by omega, Q0.out, Q1.out, BKx.out, HKS.out, O5.out, .inl ⟨rfl, rfl⟩⟩
        case round =>
          clear O5 Q0 Q1 BKx HKS
          obtain ⟨ei, jn, y, ks, rfl, rfl, rfl, rfl, hj2, q0, q1, hbk, hks, hob, hcs⟩ := hrel
          have Q0 := hid q0
          have Q1 := hid q1
          have BKy := hid hbk
          have OBy := hid hob
          have HKS := hid hks
          have hj0 : (0 : Int) ≤ (jn : Int) := by omega
          clear q0 q1 hbk hob hks
          rcases hcs with ⟨rfl, hlk⟩ | ⟨hne, hlk⟩
          · by_cases hjlt : jn < 2
            · have hjI : (jn : Int) < 2 := by omega
              have HNX := hid (lkN_next (x := x) (f := fn) (t := tn) hjlt (by rw [hlk]))
              have HST := hid (fun h => lkN_stop (x := x) (f := fn) (t := tn) hjlt h)
              rw [hlk] at HNX
              obtain ⟨k, hk4, hck, hkk⟩ : ∃ k : Nat, k < 4 ∧ At wr q jn (.int .i64 (k : Int)) ∧ k = (if jn = 0 then fn else tn) := by
                have : jn = 0 ∨ jn = 1 := by omega
                rcases this with rfl | rfl
                · exact ⟨fn, hf4, Q0.out, rfl⟩
                · exact ⟨tn, ht4, Q1.out, rfl⟩
              rw [← hkk] at HNX
              simp only at HNX
              clear hkk hlk
              have ck := hck.c
              have cg := (OBy.out.gh.gm k hk4).c
              have cm := (OBy.out.mn k hk4).c
              have xm := (OBy.out.mn k hk4).f
              have hk0 : (0 : Int) ≤ (k : Int) := by omega
              have hkI : (k : Int) < 4 := by omega
              clear hck
              rcases hmi : s.lk.op k with _ | _
              · rw [hmi] at cg
                by_cases hin : k ∈ ks
                · have hmt : y.mine k = true := by rw [BKy.out.mn]; simp [hin]
                  rw [hmt] at cm
                  have HL1 := hid (BKy.out.mine hin)
                  rw [HL1.out] at HNX
                  clear hmt hin hmi
                  go_wp2_with fail
                  exact ⟨⟨0, jn + 1, y, ks, rfl, rfl, rfl, by go_num, by omega, Q0.out, Q1.out, BKy.out, by have := HKS.out; omega, OBy.out, .inl ⟨rfl, HNX.out⟩⟩, by simp [intOf]; omega⟩
                · have hmt : y.mine k = false := by rw [BKy.out.mn]; simp [hin]
                  rw [hmt] at cm
                  have hl5 : ks.length ≤ 5 := by have := HKS.out; have := HL3.out; omega
                  have HTK := hid (BKy.out.take hk4 hin hmi hl5)
                  have HL1 : Hid (lock1 y k = (0, ⟨(L.acq y.lk (k : Int)).2.2, L.updB y.mine k true, (L.acq y.lk (k : Int)).1 :: y.hs, y.bal, y.jr⟩)) := by
                    refine lock1_take hmt ?_
                    have hf : y.lk.op k = false := by rw [BKy.out.op]; simp [hin]; exact hmi
                    rw [acq_take hk4 hf]
                  rw [HL1.out] at HTK
                  have OBN := hid (OBy.out.own HD.out hk4 (lk := (L.acq y.lk (k : Int)).2.2) (hs := (L.acq y.lk (k : Int)).1 :: y.hs))
                  rw [HL1.out] at HNX
                  have sz1 : (L.bs (evs 65 ks.reverse)).size ≤ 10 := by rw [evs_size]; simp; omega
                  have sz2 : (L.bs (evs 82 ks)).size ≤ 10 := by rw [evs_size]; omega
                  have sz3 : (L.bs [65, L.dig k]).size ≤ 2 := by rw [bs_size]; simp
                  have sz4 : (L.bs [82, L.dig k]).size ≤ 2 := by rw [bs_size]; simp
                  have HQM := HQ.out
                  have R0 := hid (Q0.out.other (b' := pm) (o' := k) (by omega) (.bool true))
                  have R1 := hid (Q1.out.other (b' := pm) (o' := k) (by omega) (.bool true))
                  clear hmt hmi hl5 HQM
                  generalize (⟨(L.acq y.lk (k : Int)).2.2, L.updB y.mine k true, (L.acq y.lk (k : Int)).1 :: y.hs, y.bal, y.jr⟩ : BS) = y' at *
                  go_upto_region 17 with fail
                  clear cm xm ck cg
                  generalize wr.setCell ⟨pm, k, none⟩ (.bool true) = z at *
                  go_wp2_with fail
                  refine (ev_any 65 hk4 z).mono ?_
                  rintro e z1 ⟨rfl, f1⟩
                  have O6 := hid (OBN.out.quiet f1)
                  have S0 := hid (R0.out.fr f1 (fun h => h))
                  have S1' := hid (R1.out.fr f1 (fun h => h))
                  clear f1 OBN R0 R1
                  go_wp2_with fail
                  refine (ev_any 82 hk4 z1).mono ?_
                  rintro e z2 ⟨rfl, f2⟩
                  have O7 := hid (O6.out.quiet f2)
                  have T0 := hid (S0.out.fr f2 (fun h => h))
                  have T1 := hid (S1'.out.fr f2 (fun h => h))
                  clear f2 O6 S0 S1'
                  go_wp2_with fail
                  exact ⟨⟨0, jn + 1, y', k :: ks, by rw [evs_took], by rw [evs_back], rfl, by go_num, by omega, T0.out, T1.out, HTK.out.2, by have := HKS.out; simp; omega, O7.out, .inl ⟨rfl, HNX.out⟩⟩, by simp [intOf]; omega⟩
              · rw [hmi] at cg
                have HL1 := hid (BKy.out.held hk4 hmi)
                rw [HL1.out] at HNX
                clear hmi
                go_wp2_with fail
                have hst := HST.out (by rw [HNX.out]; simp)
                exact ⟨⟨4, jn + 1, y, ks, rfl, rfl, rfl, by go_num, by omega, Q0.out, Q1.out, BKy.out, by have := HKS.out; omega, OBy.out, .inr ⟨by decide, hst.trans HNX.out⟩⟩, by simp [intOf] <;> omega⟩
            · have hjI : ¬ (jn : Int) < 2 := by omega
              obtain rfl : jn = 2 := by omega
              have HMV := hid (move1_pay HC.out (x := x) (by rw [hlk]))
              rw [hlk] at HMV
              simp only at HMV
              have HKS6 : Hid (ks.length ≤ 6) := by have := HKS.out; have := HL3.out; unfold Hid; omega
              have h0 := cellFr OBy.out.fr (p := ⟨B, off + n * 3, none⟩) (fun h => h) HC3.out.1
              have h1 := cellFr OBy.out.fr (p := ⟨B, off + n * 3 + 1, none⟩) (fun h => h) HC3.out.2.1
              have h2 := cellFr OBy.out.fr (p := ⟨B, off + n * 3 + 2, none⟩) (fun h => h) HC3.out.2.2
              have HP := hid (gpay_any (w := wr) (B := pb) (off := 0) (bal := y.bal) (fun k hk => by rw [Nat.zero_add]; exact OBy.out.bb k hk) hf4 ht4 hft a1 a2 OBy.out.bl)
              clear hlk
              go_wp2_with fail
              refine HP.out.mono ?_
              rintro e w7 ⟨rfl, yb, yo, f7⟩
              have hd := HD.out
              have OB7 : Hid (GH w7 P s.bal s.un s.lk.op v ∧ (∀ k, k < 4 → At w7 pb k (.int .i64 (payM y.bal fn tn ma k))) ∧ (∀ k, k < 4 → At w7 pm k (.bool (y.mine k))) ∧ Box w7 pa ∧ Fr (fun _ => False) w w7) := by
                refine ⟨OBy.out.gh.fr f7 (by omega), fun k hk => ?_, fun k hk => (OBy.out.mn k hk).fr f7 (by omega), OBy.out.bx.fr f7 (by omega), OBy.out.fr.then f7 (fun i hi e => by omega)⟩
                have := yb k hk
                rw [Nat.zero_add] at this
                exact this
              have BK7 := hid (BKy.out.pay fn tn ma)
              have BLy := hid OBy.out.bl
              clear yb yo f7 HP hd h0 h1 h2 OBy BKy
              have HRS : Hid (runB 0 ms s.start = if payE y.bal fn tn ma ≠ 0 then (n, payE y.bal fn tn ma, pay1 y fn tn ma) else runB (n + 1) (ms.drop (n + 1)) (pay1 y fn tn ma)) := by
                have h := HR.out
                rw [HDR.out] at h
                rw [← h]
                show (if (move1 x ⟨(fn : Int), (tn : Int), ma⟩).1 ≠ 0 then (n, (move1 x ⟨(fn : Int), (tn : Int), ma⟩).1, (move1 x ⟨(fn : Int), (tn : Int), ma⟩).2) else runB (n + 1) (ms.drop (n + 1)) (move1 x ⟨(fn : Int), (tn : Int), ma⟩).2) = _
                rw [HMV.out]
              clear HMV HR
              by_cases he : payE y.bal fn tn ma = 0
              · rw [if_neg (fun h => h he)] at HRS
                have HPM : Hid (payM y.bal fn tn ma = payB y.bal fn tn ma) := by unfold Hid payM; rw [if_pos he]
                rw [he]
                clear he
                go_wp2_with fail
                refine ⟨⟨n + 1, pay1 y fn tn ma, ks, rfl, rfl, by go_num, by omega, BK7.out, by have := HKS.out; omega, ⟨OB7.out.1, fun k hk => ?_, OB7.out.2.2.1, OB7.out.2.2.2.1, OB7.out.2.2.2.2, payB_ok BLy.out hf4 ht4 a1⟩, HRS.out.symm⟩, by simp [intOf]; omega⟩
                have := OB7.out.2.1 k hk
                rw [HPM.out] at this
                exact this
              · rw [if_pos he] at HRS
                have HNE := hid he
                have heb : (payE y.bal fn tn ma != 0) = true := by simp [he]
                have heb2 : (payE y.bal fn tn ma == 0) = false := by simp [he]
                have GX := hid OB7.out.1
                have BXX := hid OB7.out.2.2.2.1
                have FX := hid OB7.out.2.2.2.2
                clear he OB7
                generalize payE y.bal fn tn ma = ei at *
                generalize pay1 y fn tn ma = y' at *
                have HFL := hid (run_fail HRS.out HNE.out)
                have HBK := hid (BK7.out.back HK0.out HKS6.out)
                have sz1 : (L.bs (evs 65 ks.reverse)).size ≤ 12 := by rw [evs_size]; have := HKS6.out; simp; omega
                have sz2 : (L.bs (evs 82 ks)).size ≤ 12 := by rw [evs_size]; have := HKS6.out; omega
                by_cases hbp : 0 < n ∨ ei = 7
                · rw [if_pos hbp] at HFL
                  obtain hp | ⟨rfl, hs7⟩ : ((0 : Int) < (n : Int)) ∨ (n = 0 ∧ (ei == 7) = true) := by
                    rcases hbp with h | h
                    · exact .inl (by omega)
                    · by_cases h0 : 0 < n
                      · exact .inl (by omega)
                      · exact .inr ⟨by omega, by simp [h]⟩
                  all_goals
                    clear hbp
                    have u5 := GX.out.gu.c
                    have x5 := GX.out.gu.f
                    go_wp2_with fail
                    refine (bump_any s.un w7).mono ?_
                    rintro e zz ⟨rfl, hzz⟩
                    obtain rfl := hzz.symm
                    have B6 := hid (BXX.out.fr (in_fr P 4 (.int .i64 (bump s.un : Int)) (Fr.refl _ w7)) (fun e => haP e.symm))
                    have G6 : Hid (GH (w7.setCell ⟨P, 4, none⟩ (.int .i64 (bump s.un : Int))) P s.bal (bump s.un) s.lk.op v) := ⟨fun k hk => (GX.out.gb k hk).other (by omega) _, GX.out.gu.same _, fun k hk => (GX.out.gm k hk).other (by omega) _, GX.out.gh.other (by omega) _⟩
                    have F6 : Hid (Fr (fun i => i = P) w (w7.setCell ⟨P, 4, none⟩ (.int .i64 (bump s.un : Int)))) := (FX.out.mono (fun _ _ h => h.elim)).trans (in_fr P 4 (.int .i64 (bump s.un : Int)) (Fr.refl _ w7))
                    go_upto_region 24 with fail
                    clear u5 x5 BXX GX FX
                    generalize w7.setCell ⟨P, 4, none⟩ (.int .i64 (bump s.un : Int)) = z6 at *
                    have c0 := B6.out.a0.c
                    have x0 := B6.out.a0.f
                    have c1 := B6.out.a1.c
                    have x1 := B6.out.a1.f
                    have c2 := B6.out.a2.c
                    have x2 := B6.out.a2.f
                    have c3 := B6.out.a3.c
                    have x3 := B6.out.a3.f
                    go_wp2_with fail
                    refine retO2 Try.results55 rfl rfl rfl B6.out.a0.has B6.out.a1.has B6.out.a2.has B6.out.a3.has ?_
                    rw [HRS.out, HFL.out, L.bs_append]
                    simp only
                    rw [HBK.out.2]
                    exact ⟨rfl, G6.out.fr (S := fun i => i = pa) (in_fr pa _ _ (in_fr _ _ _ (in_fr _ _ _ (in_fr _ _ _ (Fr.refl _ _))))) haP, (kept_clear s.lk).trans HBK.out.1, F6.out.then (S' := fun i => i = pa) (in_fr pa _ _ (in_fr _ _ _ (in_fr _ _ _ (in_fr _ _ _ (Fr.refl _ _))))) (fun i hi e => by have := HD.out; omega)⟩
                · rw [if_neg hbp] at HFL
                  obtain rfl : n = 0 := by
                    have : ¬ 0 < n := fun c => hbp (.inl c)
                    omega
                  have hs7 : (ei == 7) = false := by
                    simp only [beq_eq_false_iff_ne]
                    exact fun c => hbp (.inr c)
                  clear hbp
                  have c0 := BXX.out.a0.c
                  have x0 := BXX.out.a0.f
                  have c1 := BXX.out.a1.c
                  have x1 := BXX.out.a1.f
                  have c2 := BXX.out.a2.c
                  have x2 := BXX.out.a2.f
                  have c3 := BXX.out.a3.c
                  have x3 := BXX.out.a3.f
                  go_wp2_with fail
                  refine retO2 Try.results55 rfl rfl rfl BXX.out.a0.has BXX.out.a1.has BXX.out.a2.has BXX.out.a3.has ?_
                  rw [HRS.out, HFL.out, L.bs_append]
                  simp only
                  rw [HBK.out.2]
                  exact ⟨rfl, GX.out.fr (S := fun i => i = pa) (in_fr pa _ _ (in_fr _ _ _ (in_fr _ _ _ (in_fr _ _ _ (Fr.refl _ _))))) haP, (kept_clear s.lk).trans HBK.out.1, (FX.out.mono (fun _ _ h => h.elim)).then (S' := fun i => i = pa) (in_fr pa _ _ (in_fr _ _ _ (in_fr _ _ _ (in_fr _ _ _ (Fr.refl _ _))))) (fun i hi e => by have := HD.out; omega)⟩
          · have heb : (ei != 0) = true := by simp [hne]
            have heb2 : (ei == 0) = false := by simp [hne]
            have HNE := hid hne
            have HRS : Hid (runB 0 ms s.start = (n, ei, y)) := by
              have h := HR.out
              rw [HDR.out] at h
              rw [← h]
              show (if (move1 x ⟨(fn : Int), (tn : Int), ma⟩).1 ≠ 0 then (n, (move1 x ⟨(fn : Int), (tn : Int), ma⟩).1, (move1 x ⟨(fn : Int), (tn : Int), ma⟩).2) else runB (n + 1) (ms.drop (n + 1)) (move1 x ⟨(fn : Int), (tn : Int), ma⟩).2) = _
              rw [move1_lock HC.out (by rw [hlk]; exact hne), hlk, if_pos hne]
            have HKS6 : Hid (ks.length ≤ 6) := by have := HKS.out; have := HL3.out; unfold Hid; omega
            have BK7 := hid BKy.out
            have GX := hid OBy.out.gh
            have BXX := hid OBy.out.bx
            have FX := hid OBy.out.fr
            clear hne hlk OBy BKy HR
            by_cases hjlt : (jn : Int) < 2
            all_goals
              have HFL := hid (run_fail HRS.out HNE.out)
              have HBK := hid (BK7.out.back HK0.out HKS6.out)
              have sz1 : (L.bs (evs 65 ks.reverse)).size ≤ 12 := by rw [evs_size]; have := HKS6.out; simp; omega
              have sz2 : (L.bs (evs 82 ks)).size ≤ 12 := by rw [evs_size]; have := HKS6.out; omega
              by_cases hbp : 0 < n ∨ ei = 7
              · rw [if_pos hbp] at HFL
                obtain hp | ⟨rfl, hs7⟩ : ((0 : Int) < (n : Int)) ∨ (n = 0 ∧ (ei == 7) = true) := by
                  rcases hbp with h | h
                  · exact .inl (by omega)
                  · by_cases h0 : 0 < n
                    · exact .inl (by omega)
                    · exact .inr ⟨by omega, by simp [h]⟩
                all_goals
                  clear hbp
                  have u5 := GX.out.gu.c
                  have x5 := GX.out.gu.f
                  go_wp2_with fail
                  refine (bump_any s.un wr).mono ?_
                  rintro e zz ⟨rfl, hzz⟩
                  obtain rfl := hzz.symm
                  have B6 := hid (BXX.out.fr (in_fr P 4 (.int .i64 (bump s.un : Int)) (Fr.refl _ wr)) (fun e => haP e.symm))
                  have G6 : Hid (GH (wr.setCell ⟨P, 4, none⟩ (.int .i64 (bump s.un : Int))) P s.bal (bump s.un) s.lk.op v) := ⟨fun k hk => (GX.out.gb k hk).other (by omega) _, GX.out.gu.same _, fun k hk => (GX.out.gm k hk).other (by omega) _, GX.out.gh.other (by omega) _⟩
                  have F6 : Hid (Fr (fun i => i = P) w (wr.setCell ⟨P, 4, none⟩ (.int .i64 (bump s.un : Int)))) := (FX.out.mono (fun _ _ h => h.elim)).trans (in_fr P 4 (.int .i64 (bump s.un : Int)) (Fr.refl _ wr))
                  go_upto_region 24 with fail
                  clear u5 x5 BXX GX FX
                  generalize wr.setCell ⟨P, 4, none⟩ (.int .i64 (bump s.un : Int)) = z6 at *
                  have c0 := B6.out.a0.c
                  have x0 := B6.out.a0.f
                  have c1 := B6.out.a1.c
                  have x1 := B6.out.a1.f
                  have c2 := B6.out.a2.c
                  have x2 := B6.out.a2.f
                  have c3 := B6.out.a3.c
                  have x3 := B6.out.a3.f
                  go_wp2_with fail
                  refine retO2 Try.results55 rfl rfl rfl B6.out.a0.has B6.out.a1.has B6.out.a2.has B6.out.a3.has ?_
                  rw [HRS.out, HFL.out, L.bs_append]
                  simp only
                  rw [HBK.out.2]
                  exact ⟨rfl, G6.out.fr (S := fun i => i = pa) (in_fr pa _ _ (in_fr _ _ _ (in_fr _ _ _ (in_fr _ _ _ (Fr.refl _ _))))) haP, (kept_clear s.lk).trans HBK.out.1, F6.out.then (S' := fun i => i = pa) (in_fr pa _ _ (in_fr _ _ _ (in_fr _ _ _ (in_fr _ _ _ (Fr.refl _ _))))) (fun i hi e => by have := HD.out; omega)⟩
              · rw [if_neg hbp] at HFL
                obtain rfl : n = 0 := by
                  have : ¬ 0 < n := fun c => hbp (.inl c)
                  omega
                have hs7 : (ei == 7) = false := by
                  simp only [beq_eq_false_iff_ne]
                  exact fun c => hbp (.inr c)
                clear hbp
                have c0 := BXX.out.a0.c
                have x0 := BXX.out.a0.f
                have c1 := BXX.out.a1.c
                have x1 := BXX.out.a1.f
                have c2 := BXX.out.a2.c
                have x2 := BXX.out.a2.f
                have c3 := BXX.out.a3.c
                have x3 := BXX.out.a3.f
                go_wp2_with fail
                refine retO2 Try.results55 rfl rfl rfl BXX.out.a0.has BXX.out.a1.has BXX.out.a2.has BXX.out.a3.has ?_
                rw [HRS.out, HFL.out, L.bs_append]
                simp only
                rw [HBK.out.2]
                exact ⟨rfl, GX.out.fr (S := fun i => i = pa) (in_fr pa _ _ (in_fr _ _ _ (in_fr _ _ _ (in_fr _ _ _ (Fr.refl _ _))))) haP, (kept_clear s.lk).trans HBK.out.1, (FX.out.mono (fun _ _ h => h.elim)).then (S' := fun i => i = pa) (in_fr pa _ _ (in_fr _ _ _ (in_fr _ _ _ (in_fr _ _ _ (Fr.refl _ _))))) (fun i hi e => by have := HD.out; omega)⟩
      · have HCN := hid hc
        have hcb : (chk mf mt ma == 0) = false := by simp [hc]
        have heb : (chk mf mt ma != 0) = true := by simp [hc]
        have HRS : Hid (runB 0 ms s.start = (n, chk mf mt ma, x)) := by
          have h := HR.out
          rw [HDR.out] at h
          rw [← h]
          show (if (move1 x ⟨mf, mt, ma⟩).1 ≠ 0 then (n, (move1 x ⟨mf, mt, ma⟩).1, (move1 x ⟨mf, mt, ma⟩).2) else runB (n + 1) (ms.drop (n + 1)) (move1 x ⟨mf, mt, ma⟩).2) = _
          have hm1 : move1 x ⟨mf, mt, ma⟩ = (chk mf mt ma, x) := by unfold move1; rw [if_pos hc]
          rw [hm1, if_pos hc]
        clear hc
        generalize chk mf mt ma = ei at *
        have HNE := hid HCN.out
        go_upto_region 8 with fail
        go_region
        go_upto_region 9 with fail
        have O5 := hid (O4.out.quiet (((Fr.refl (fun _ => False) w4).alloc (.cells #[.int .i64 mf, .int .i64 mt] 77)).drew))
        generalize (w4.alloc (.cells #[.int .i64 mf, .int .i64 mt] 77)).drew = w5 at *
        generalize w4.heap.size = q at *
        clear O4 g0 g1 hB4
        go_wp2_with fail
        go_loopw [8, 9, 11, 13] (fun tk bk e j wi => tk = .string (L.bs (evs 65 ks.reverse)) ∧ bk = .string (L.bs (evs 82 ks)) ∧ e = .int .i64 ei ∧ j = .int .i64 0 ∧ wi = w5) (fun _ _ _ _ _ => 0)
        case atStart => exact ⟨rfl, rfl, rfl, rfl, rfl⟩
        case round =>
          obtain ⟨rfl, rfl, rfl, rfl, hwr⟩ := hrel
          obtain rfl := hwr.symm
          have HKS6 : Hid (ks.length ≤ 6) := by have := HKS.out; have := HL3.out; unfold Hid; omega
          have BK7 := hid BKx.out
          have GX := hid O5.out.gh
          have BXX := hid O5.out.bx
          have FX := hid O5.out.fr
          clear O5
          have HFL := hid (run_fail HRS.out HNE.out)
          have HBK := hid (BK7.out.back HK0.out HKS6.out)
          have sz1 : (L.bs (evs 65 ks.reverse)).size ≤ 12 := by rw [evs_size]; have := HKS6.out; simp; omega
          have sz2 : (L.bs (evs 82 ks)).size ≤ 12 := by rw [evs_size]; have := HKS6.out; omega
          by_cases hbp : 0 < n ∨ ei = 7
          · rw [if_pos hbp] at HFL
            obtain hp | ⟨rfl, hs7⟩ : ((0 : Int) < (n : Int)) ∨ (n = 0 ∧ (ei == 7) = true) := by
              rcases hbp with h | h
              · exact .inl (by omega)
              · by_cases h0 : 0 < n
                · exact .inl (by omega)
                · exact .inr ⟨by omega, by simp [h]⟩
            all_goals
              clear hbp
              have u5 := GX.out.gu.c
              have x5 := GX.out.gu.f
              go_wp2_with fail
              refine (bump_any s.un w5).mono ?_
              rintro e zz ⟨rfl, hzz⟩
              obtain rfl := hzz.symm
              have B6 := hid (BXX.out.fr (in_fr P 4 (.int .i64 (bump s.un : Int)) (Fr.refl _ w5)) (fun e => haP e.symm))
              have G6 : Hid (GH (w5.setCell ⟨P, 4, none⟩ (.int .i64 (bump s.un : Int))) P s.bal (bump s.un) s.lk.op v) := ⟨fun k hk => (GX.out.gb k hk).other (by omega) _, GX.out.gu.same _, fun k hk => (GX.out.gm k hk).other (by omega) _, GX.out.gh.other (by omega) _⟩
              have F6 : Hid (Fr (fun i => i = P) w (w5.setCell ⟨P, 4, none⟩ (.int .i64 (bump s.un : Int)))) := (FX.out.mono (fun _ _ h => h.elim)).trans (in_fr P 4 (.int .i64 (bump s.un : Int)) (Fr.refl _ w5))
              go_upto_region 24 with fail
              clear u5 x5 BXX GX FX
              generalize w5.setCell ⟨P, 4, none⟩ (.int .i64 (bump s.un : Int)) = z6 at *
              have c0 := B6.out.a0.c
              have x0 := B6.out.a0.f
              have c1 := B6.out.a1.c
              have x1 := B6.out.a1.f
              have c2 := B6.out.a2.c
              have x2 := B6.out.a2.f
              have c3 := B6.out.a3.c
              have x3 := B6.out.a3.f
              go_wp2_with fail
              refine retO2 Try.results55 rfl rfl rfl B6.out.a0.has B6.out.a1.has B6.out.a2.has B6.out.a3.has ?_
              rw [HRS.out, HFL.out, L.bs_append]
              simp only
              rw [HBK.out.2]
              exact ⟨rfl, G6.out.fr (S := fun i => i = pa) (in_fr pa _ _ (in_fr _ _ _ (in_fr _ _ _ (in_fr _ _ _ (Fr.refl _ _))))) haP, (kept_clear s.lk).trans HBK.out.1, F6.out.then (S' := fun i => i = pa) (in_fr pa _ _ (in_fr _ _ _ (in_fr _ _ _ (in_fr _ _ _ (Fr.refl _ _))))) (fun i hi e => by have := HD.out; omega)⟩
          · rw [if_neg hbp] at HFL
            obtain rfl : n = 0 := by
              have : ¬ 0 < n := fun c => hbp (.inl c)
              omega
            have hs7 : (ei == 7) = false := by
              simp only [beq_eq_false_iff_ne]
              exact fun c => hbp (.inr c)
            clear hbp
            have c0 := BXX.out.a0.c
            have x0 := BXX.out.a0.f
            have c1 := BXX.out.a1.c
            have x1 := BXX.out.a1.f
            have c2 := BXX.out.a2.c
            have x2 := BXX.out.a2.f
            have c3 := BXX.out.a3.c
            have x3 := BXX.out.a3.f
            go_wp2_with fail
            refine retO2 Try.results55 rfl rfl rfl BXX.out.a0.has BXX.out.a1.has BXX.out.a2.has BXX.out.a3.has ?_
            rw [HRS.out, HFL.out, L.bs_append]
            simp only
            rw [HBK.out.2]
            exact ⟨rfl, GX.out.fr (S := fun i => i = pa) (in_fr pa _ _ (in_fr _ _ _ (in_fr _ _ _ (in_fr _ _ _ (Fr.refl _ _))))) haP, (kept_clear s.lk).trans HBK.out.1, (FX.out.mono (fun _ _ h => h.elim)).then (S' := fun i => i = pa) (in_fr pa _ _ (in_fr _ _ _ (in_fr _ _ _ (in_fr _ _ _ (Fr.refl _ _))))) (fun i hi e => by have := HD.out; omega)⟩
    · have hltI : ¬ (n : Int) < (len : Int) := by omega
      obtain rfl : n = len := by omega
      have HRS : Hid (runB 0 ms s.start = (n, 0, x)) := by
        unfold Hid
        rw [← HR.out, HLQ.out, List.drop_length]; rfl
      have HKS6 : Hid (ks.length ≤ 6) := by have := HKS.out; unfold Hid; omega
      have HBK := hid (BKx.out.back HK0.out HKS6.out)
      have a0 := (OBx.out.bb 0 (by omega)).c
      have a1 := (OBx.out.bb 1 (by omega)).c
      have a2 := (OBx.out.bb 2 (by omega)).c
      have a3 := (OBx.out.bb 3 (by omega)).c
      have b0 := (OBx.out.gh.gb 0 (by omega)).c
      have b1 := (OBx.out.gh.gb 1 (by omega)).c
      have b2 := (OBx.out.gh.gb 2 (by omega)).c
      have b3 := (OBx.out.gh.gb 3 (by omega)).c
      have y0 := (OBx.out.gh.gb 0 (by omega)).f
      have y1 := (OBx.out.gh.gb 1 (by omega)).f
      have y2 := (OBx.out.gh.gb 2 (by omega)).f
      have y3 := (OBx.out.gh.gb 3 (by omega)).f
      have sz1 : (L.bs (evs 65 ks.reverse)).size ≤ 12 := by rw [evs_size]; have := HKS6.out; simp; omega
      have sz2 : (L.bs (evs 82 ks)).size ≤ 12 := by rw [evs_size]; have := HKS6.out; omega
      have F5 : Hid (Fr (fun i => i = P) wr ((((wr.setCell ⟨P, 0, none⟩ (.int .i64 (x.bal 0))).setCell ⟨P, 1, none⟩ (.int .i64 (x.bal 1))).setCell ⟨P, 2, none⟩ (.int .i64 (x.bal 2))).setCell ⟨P, 3, none⟩ (.int .i64 (x.bal 3)))) := in_fr _ _ _ (in_fr _ _ _ (in_fr _ _ _ (in_fr _ _ _ (Fr.refl _ _))))
      have G5 : Hid (GH ((((wr.setCell ⟨P, 0, none⟩ (.int .i64 (x.bal 0))).setCell ⟨P, 1, none⟩ (.int .i64 (x.bal 1))).setCell ⟨P, 2, none⟩ (.int .i64 (x.bal 2))).setCell ⟨P, 3, none⟩ (.int .i64 (x.bal 3))) P x.bal s.un s.lk.op v) := by
        have l := OBx.out.gh
        refine ⟨fun k hk => ?_, (((l.gu.other (by omega) _).other (by omega) _).other (by omega) _).other (by omega) _, fun k hk => ((((l.gm k hk).other (by omega) _).other (by omega) _).other (by omega) _).other (by omega) _, (((l.gh.other (by omega) _).other (by omega) _).other (by omega) _).other (by omega) _⟩
        have : k = 0 ∨ k = 1 ∨ k = 2 ∨ k = 3 := by omega
        rcases this with rfl | rfl | rfl | rfl
        · exact ((((l.gb 0 (by omega)).same _).other (by omega) _).other (by omega) _).other (by omega) _
        · exact ((((l.gb 1 (by omega)).other (by omega) _).same _).other (by omega) _).other (by omega) _
        · exact ((((l.gb 2 (by omega)).other (by omega) _).other (by omega) _).same _).other (by omega) _
        · exact ((((l.gb 3 (by omega)).other (by omega) _).other (by omega) _).other (by omega) _).same _
      have B5 := hid (OBx.out.bx.fr F5.out (fun e => haP e.symm))
      have FW := hid OBx.out.fr
      go_upto_region 26 with fail
      clear a0 a1 a2 a3 b0 b1 b2 b3 y0 y1 y2 y3 OBx
      generalize (((wr.setCell ⟨P, 0, none⟩ (.int .i64 (x.bal 0))).setCell ⟨P, 1, none⟩ (.int .i64 (x.bal 1))).setCell ⟨P, 2, none⟩ (.int .i64 (x.bal 2))).setCell ⟨P, 3, none⟩ (.int .i64 (x.bal 3)) = z5 at *
      have c0 := B5.out.a0.c
      have x0 := B5.out.a0.f
      have c1 := B5.out.a1.c
      have x1 := B5.out.a1.f
      have c2 := B5.out.a2.c
      have x2 := B5.out.a2.f
      have c3 := B5.out.a3.c
      have x3 := B5.out.a3.f
      go_wp2_with fail
      refine retO2 Try.results55 rfl rfl rfl B5.out.a0.has B5.out.a1.has B5.out.a2.has B5.out.a3.has ?_
      rw [HRS.out]
      have e1 : endB s (n, 0, x) = ⟨relAll x.hs x.lk, x.bal, s.un⟩ := by unfold endB; rw [if_pos rfl]
      rw [e1, L.bs_append]
      simp only
      rw [HBK.out.2]
      exact ⟨rfl, G5.out.fr (S := fun i => i = pa) (in_fr pa _ _ (in_fr _ _ _ (in_fr _ _ _ (in_fr _ _ _ (Fr.refl _ _))))) haP, (kept_clear s.lk).trans HBK.out.1, ((FW.out.mono (fun _ _ h => h.elim)).trans F5.out).then (S' := fun i => i = pa) (in_fr pa _ _ (in_fr _ _ _ (in_fr _ _ _ (in_fr _ _ _ (Fr.refl _ _))))) (fun i hi e => by have := HD.out; omega)⟩

end Go.Proofs.Qxb6500453a
