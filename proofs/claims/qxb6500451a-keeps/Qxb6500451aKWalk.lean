/- Keeps: the walk over the real store. -/
import Derived.Test.Qxb6500451aKShown
import Derived.Test.Qxb6500451aWalk
import Derived.Deep.RegionHeld3
namespace Go.Proofs.Qxb6500451a
open Go Go.RowKit
set_option maxRecDepth 300000
set_option maxHeartbeats 3200000
set_option linter.unusedSimpArgs false
set_option linter.unusedVariables false

/-- The store, the law's count of Puts, the script's ground. -/
structure Kp (w0 w : World) (F : Nat → Prop) (bS P : Nat) (f : DocF) (r : Int → Nat) (k : Nat) : Prop where
  s : SR w F bS f r
  p : PutsAt w P r
  n : ¬ F P
  lF : ∀ i, F i → w0.heap.size ≤ i ∧ i < w.heap.size
  lP : w0.heap.size ≤ P
  f0 : Fr (fun _ => False) w0 w
  c : ∀ j, r j ≤ k

theorem Kp.quiet {w0 w w' : World} {F : Nat → Prop} {bS P : Nat} {f : DocF} {r : Int → Nat} {k : Nat} (h : Kp w0 w F bS P f r k) (hf : Fr (fun _ => False) w w') : Kp w0 w' F bS P f r k :=
  ⟨h.s.frw hf (fun _ _ h => h), h.p.fr hf (fun h => h), h.n, fun i hi => ⟨(h.lF i hi).1, Nat.lt_of_lt_of_le (h.lF i hi).2 hf.size⟩, h.lP, h.f0.trans hf, h.c⟩

theorem SR.rrg {w : World} {F : Nat → Prop} {bS : Nat} {f : DocF} {r : Int → Nat} (h : SR w F bS f r) : ∀ k, 1 ≤ r k → 1 ≤ k ∧ k ≤ 9 := by
  obtain ⟨bd, br, bg, p, n, m, q, h⟩ := h
  exact h.rrg

theorem mk11 (w : World) : (Instr.makeSlice 28 (.int .i64 11) (.int .i64 11)).run Try.prog w = .ok (.slice (some ⟨w.heap.size, 0, none⟩) 11 11) (w.alloc (.cells #[.int .i64 0, .int .i64 0, .int .i64 0, .int .i64 0, .int .i64 0, .int .i64 0, .int .i64 0, .int .i64 0, .int .i64 0, .int .i64 0, .int .i64 0] 3)) := by kernel_rfl
theorem puts_new (w : World) : PutsAt (w.alloc (.cells #[.int .i64 0, .int .i64 0, .int .i64 0, .int .i64 0, .int .i64 0, .int .i64 0, .int .i64 0, .int .i64 0, .int .i64 0, .int .i64 0, .int .i64 0] 3)) w.heap.size (fun _ => 0) := by
  intro i hi
  have : i = 0 ∨ i = 1 ∨ i = 2 ∨ i = 3 ∨ i = 4 ∨ i = 5 ∨ i = 6 ∨ i = 7 ∨ i = 8 ∨ i = 9 ∨ i = 10 := by omega
  rcases this with rfl | rfl | rfl | rfl | rfl | rfl | rfl | rfl | rfl | rfl | rfl <;> exact At.new w _ _ rfl
theorem PutsAt.inc {w : World} {P : Nat} {r : Int → Nat} (h : PutsAt w P r) {n : Nat} (hn : n < 11) {y : Int} (hy : y = (r (n : Int) : Int) + 1) : PutsAt (w.setCell ⟨P, n, none⟩ (.int .i64 y)) P (incC r (n : Int)) := by
  intro i hi
  by_cases e : i = n
  · subst e
    refine ((h i hi).same _).val ?_
    rw [hy]
    simp [incC]
  · refine ((h i hi).other (by omega) _).val ?_
    have : ¬ ((i : Int) = (n : Int)) := by omega
    simp [incC, this]

theorem kp_new {w w1 : World} (hs : SR w1 (fun i => w.heap.size ≤ i) (w.heap.size + 3) noD (fun _ => 0)) {w0 : World} (h0 : Fr (fun _ => False) w0 w) (hf : Fr (fun _ => False) w w1) :
    Kp w0 (w1.alloc (.cells #[.int .i64 0, .int .i64 0, .int .i64 0, .int .i64 0, .int .i64 0, .int .i64 0, .int .i64 0, .int .i64 0, .int .i64 0, .int .i64 0, .int .i64 0] 3)) (fun i => w.heap.size ≤ i ∧ i < w1.heap.size) (w.heap.size + 3) w1.heap.size noD (fun _ => 0) 0 := by
  have z0 := h0.size
  have z1 := hf.size
  refine ⟨hs.bound.frw ((Fr.refl (fun _ => False) _).alloc _) (fun _ _ h => h), puts_new w1, fun h => by omega, fun i hi => ?_, by omega, (h0.trans hf).alloc _, fun _ => Nat.le_refl _⟩
  simp only [World.size_alloc]
  omega

theorem StpAt.new (w : World) (o : Stp) : StpAt (w.alloc (.cells #[.int .i64 o.kind, .int .i64 o.a, .int .i64 o.b, .int .i64 o.c, .string o.s, .string o.t] 36)) w.heap.size 0 o :=
  ⟨(At.new w _ _ rfl).c, (At.new w _ _ rfl).c, (At.new w _ _ rfl).c, (At.new w _ _ rfl).c, (At.new w _ _ rfl).c, (At.new w _ _ rfl).c⟩

/-- The answer in its box. -/
structure AnsAt (w : World) (pA : Nat) (e n m : Int) (s : ByteArray) : Prop where
  a0 : At w pA 0 (.int .i64 e)
  a1 : At w pA 1 (.int .i64 n)
  a2 : At w pA 2 (.int .i64 m)
  a3 : At w pA 3 (.string s)
theorem AnsAt.fr {w w' : World} {pA : Nat} {e n m : Int} {s : ByteArray} (h : AnsAt w pA e n m s) {S : Nat → Prop} (hf : Fr S w w') (hn : ¬ S pA) : AnsAt w' pA e n m s := ⟨h.a0.fr hf hn, h.a1.fr hf hn, h.a2.fr hf hn, h.a3.fr hf hn⟩
theorem AnsAt.new (w : World) (e n m : Int) (s : ByteArray) : AnsAt (w.alloc (.cells #[.int .i64 e, .int .i64 n, .int .i64 m, .string s] 43)) w.heap.size e n m s := ⟨At.new w _ _ rfl, At.new w _ _ rfl, At.new w _ _ rfl, At.new w _ _ rfl⟩

theorem cellFr {W y : World} (h : Fr (fun _ => False) W y) {p : Addr} {v : Value} (hc : W.cell? p = some v) : y.cell? p = some v := by
  rw [h.cell (World.block_lt_of_cell? (a := p) W hc) (fun h => h)]
  exact hc

theorem cell3 {W : World} {b : Nat} {a0 a1 a2 : Value} {p : Addr} {v : Value} (hn : p.block ≠ b) (h : W.cell? p = some v) : (((W.setCell ⟨b, 0, none⟩ a0).setCell ⟨b, 1, none⟩ a1).setCell ⟨b, 2, none⟩ a2).cell? p = some v := by
  rw [World.cell?_setCell_other _ _ _ _ (fun e => hn (by rw [← e])), World.cell?_setCell_other _ _ _ _ (fun e => hn (by rw [← e])), World.cell?_setCell_other _ _ _ _ (fun e => hn (by rw [← e]))]
  exact h

theorem keepsUpTo_any {w : World} {b off len cap : Nat} (fs : Nat → Stp) (hb : b < w.heap.size) (hs : ∀ i, i < len → StpAt w b (off + i * 6) (fs i)) (hlen : len ≤ 9223372036854775807) :
    Calls Try.prog 8 #[.slice (some ⟨b, off, none⟩) len cap] w fun e w' => e = .returned (.int .i64 (-1)) ∧ Fr (fun _ => False) w w' := by
  have hlen' : (len : Int) ≤ 9223372036854775807 := by omega
  have HS := hid hs
  have m11 := mk11
  clear hs
  go_enter Try.func8, Try.ntmps8
  go_wp2_with fail
  refine (examples_any _).mono ?_
  rintro e w1 ⟨rfl, f1⟩
  have F1 := hid f1
  clear f1
  go_wp2_with fail
  refine (spelt_any _).mono ?_
  rintro e w2 ⟨rfl, f2⟩
  have F2 := hid (F1.out.trans f2)
  clear f2 F1
  go_wp2_with fail
  refine (new_any _).mono ?_
  rintro e w3 ⟨rfl, hs3, f3⟩
  have HK := hid (kp_new hs3 F2.out f3)
  clear hs3 f3 F2
  go_wp2_with fail
  generalize w3.alloc (.cells #[.int .i64 0, .int .i64 0, .int .i64 0, .int .i64 0, .int .i64 0, .int .i64 0, .int .i64 0, .int .i64 0, .int .i64 0, .int .i64 0, .int .i64 0] 3) = w4 at *
  generalize w2.heap.size + 3 = bS at *
  generalize w3.heap.size = P at *
  go_loopw [5] (fun i wr => ∃ (k : Nat) (F : Nat → Prop) (f : DocF) (r : Int → Nat), k ≤ len ∧ i = .int .i64 k ∧ Kp w wr F bS P f r k) (fun i _ => len - (intOf i).toNat)
  case atStart => exact ⟨0, _, noD, _, by omega, rfl, HK.out⟩
  case round =>
    as_aux_lemma =>
      clear HK m11
      obtain ⟨k, F, f, r, hk, rfl, hK⟩ := hrel
      have HK := hid hK
      have hk0 : (0 : Int) ≤ (k : Int) := by omega
      by_cases hlt : k < len
      rotate_left
      · have hltI : ¬ (k : Int) < (len : Int) := by omega
        clear hK
        go_wp2_with fail
        go_ret
        exact ⟨rfl, HK.out.f0⟩
      have hltI : (k : Int) < (len : Int) := by omega
      by_cases hmx : (k : Int) < 4398046511104
      rotate_left
      · clear hK
        go_wp2_with fail
        go_ret
        exact ⟨rfl, HK.out.f0⟩
      have hst := (HS.out k hlt).frS hK.f0 (fun h => h)
      obtain ⟨c0, c1, c2, c3, c4, c5⟩ := hst
      have HRB : Hid (∀ j, r j < 4611686018427387904) := fun j => by have := hK.c j; omega
      clear hK
      generalize fs k = o at *
      go_wp2_with fail
      clear c0 c1 c2 c3 c4 c5
      have HPO := hid (StpAt.new wr o)
      have HK1 := hid (HK.out.quiet ((Fr.refl (fun _ => False) wr).alloc (.cells #[.int .i64 o.kind, .int .i64 o.a, .int .i64 o.b, .int .i64 o.c, .string o.s, .string o.t] 36)))
      have HPQ : Hid (P < wr.heap.size) := (HK.out.p 0 (by omega)).lt
      have HPN : Hid (¬ F wr.heap.size) := fun h => by have := (HK.out.lF _ h).2; omega
      have HPL : Hid (wr.heap.size < (wr.alloc (.cells #[.int .i64 o.kind, .int .i64 o.a, .int .i64 o.b, .int .i64 o.c, .string o.s, .string o.t] 36)).heap.size) := by unfold Hid; simp
      have HFB : Hid (∀ i, F i → i < wr.heap.size) := fun i h => (HK.out.lF _ h).2
      generalize wr.alloc (.cells #[.int .i64 o.kind, .int .i64 o.a, .int .i64 o.b, .int .i64 o.c, .string o.s, .string o.t] 36) = x1 at *
      generalize wr.heap.size = po at *
      clear HK
      -- Look
      refine (look_any HK1.out.s).mono ?_
      rintro e x2 ⟨D0, E0, rfl, lk2, hD0, hE0, g2⟩
      have LK2 := hid lk2
      have HK2 := hid (HK1.out.quiet g2)
      have PO2 := hid (HPO.out.frS g2 (fun h => h))
      have HND : Hid (¬ F D0 ∧ ¬ F E0) := ⟨fun h => by have := HFB.out _ h; have := HPL.out; omega, fun h => by have := HFB.out _ h; have := HPL.out; omega⟩
      have HDL : Hid (po < D0 ∧ po < E0) := ⟨by have := HPL.out; omega, by have := HPL.out; omega⟩
      have HZ2 : Hid (po < x2.heap.size) := by have := HPL.out; have := g2.size; unfold Hid; omega
      clear lk2 g2 HK1 HPO hD0 hE0
      go_wp2_with fail
      -- the list held
      refine (ids_any HK2.out.s).mono ?_
      rintro e x3 ⟨v3, rfl, ow3, hnl, g3⟩
      clear hnl
      have hi64 : ∀ i ∈ ids f, I64 i := fun i hi => by
        have := nine_mem (List.mem_filter.1 hi).1
        unfold I64; omega
      obtain ⟨a3, cap3, rfl, ia3⟩ := ow3.ints hi64
      have IA3 := hid ia3
      have LK3 := hid (LK2.out.fr g3 (fun h => h) (fun h => h))
      have HK3 := hid (HK2.out.quiet g3)
      have PO3 := hid (PO2.out.frS g3 (fun h => h))
      have HNH : Hid (∀ b off, a3 = some ⟨b, off, none⟩ → ¬ F b) := by
        intro b off e h
        subst e
        have h1 := HK2.out.lF b h
        rcases ow3.empty with ⟨e', _⟩ | ⟨g, cap, e', hbb, _⟩ <;> simp at e' <;> omega
      have HNP : Hid (∀ b off, a3 = some ⟨b, off, none⟩ → po < b) := by
        intro b off e
        subst e
        have := HZ2.out
        rcases ow3.empty with ⟨e', _⟩ | ⟨g, cap, e', hbb, _⟩ <;> simp at e' <;> omega
      have hlen9 : (ids f).length ≤ 1000000 := by rw [ids_len]; have := nDocs_le f; omega
      clear ow3 ia3 g3 HK2 LK2 PO2 hi64
      go_wp2_with fail
      refine (ints_any (l := ids f) cap3 IA3.out hlen9).mono ?_
      rintro e x4 ⟨rfl, g4⟩
      have IA4 := hid (IA3.out.fr g4 (fun _ _ _ h => h))
      have LK4 := hid (LK3.out.fr g4 (fun h => h) (fun h => h))
      have HK4 := hid (HK3.out.quiet g4)
      have PO4 := hid (PO3.out.frS g4 (fun h => h))
      clear g4 HK3 LK3 PO3 IA3
      generalize hW : bs (ints (ids f)) = was at *
      obtain ⟨d0, d1, d2, d3, d4, d5⟩ := PO4.out
      simp only [Nat.zero_add] at d1 d2 d3 d4 d5
      go_wp2_with fail
      clear d0 d1 d2 d3 d4 d5
      -- the step
      have hA := do_any HK4.out.s (fun i hi => (HK4.out.lF i hi).2) HRB.out o
      simp only [Stp.val, doV, ansV] at hA
      have HA := hid hA
      clear hA
      refine HA.out.mono ?_
      rintro e x5 ⟨rfl, hs5, g5⟩
      have HF5 : Hid (∀ i, grow F x4 x5 i → w.heap.size ≤ i ∧ i < x5.heap.size) := fun i hi => by
        have z4 := HK4.out.f0.size
        have z5 := g5.size
        rcases hi with hi | hi
        · have := HK4.out.lF i hi; omega
        · omega
      have HP5 : Hid (¬ grow F x4 x5 P) := fun hi => by
        have := (HK4.out.p 0 (by omega)).lt
        rcases hi with hi | hi
        · exact HK4.out.n hi
        · omega
      have SR5 := hid hs5
      have LK5 := hid (LK4.out.fr g5 HND.out.1 HND.out.2)
      have PO5 := hid (PO4.out.frS g5 HPN.out)
      have IA5 := hid (IA4.out.fr g5 HNH.out)
      have PU5 := hid (HK4.out.p.fr g5 HK4.out.n)
      have W5 := hid (HK4.out.f0.then g5 (fun i hi h => by have := (HK4.out.lF i h).1; omega))
      have HRR := hid HK4.out.s.rrg
      have HOK := hid HK4.out.s.ok
      have HC := hid (doR_le f r o HK4.out.c)
      have HLP := hid HK4.out.lP
      have HPA : Hid (po < x5.heap.size) := World.block_lt_of_cell? (a := ⟨po, 0, none⟩) x5 PO5.out.1
      clear hs5 g5 HA HK4 LK4 PO4 IA4 HND HPN HNH
      have e5 : Fr (fun _ => False) x5 (x5.alloc (.cells #[.int .i64 (doE f o), .int .i64 (doN f r o), .int .i64 (doM f o), .string (doT f r o)] 43)) := (Fr.refl _ _).alloc _
      have AA6 := hid (AnsAt.new x5 (doE f o) (doN f r o) (doM f o) (doT f r o))
      have SR6 := hid (SR5.out.frw e5 (fun _ _ h => h))
      have LK6 := hid (LK5.out.fr e5 (fun h => h) (fun h => h))
      have PO6 := hid (PO5.out.frS e5 (fun h => h))
      have IA6 := hid (IA5.out.fr e5 (fun _ _ _ h => h))
      have PU6 := hid (PU5.out.fr e5 (fun h => h))
      have W6 := hid (W5.out.trans e5)
      have HF6 : Hid (∀ i, grow F x4 x5 i → w.heap.size ≤ i ∧ i < (x5.alloc (.cells #[.int .i64 (doE f o), .int .i64 (doN f r o), .int .i64 (doM f o), .string (doT f r o)] 43)).heap.size) := fun i hi => by have := HF5.out i hi; simp; omega
      clear e5 SR5 LK5 PO5 IA5 PU5 W5 HF5
      obtain ⟨d0, d1, d2, d3, d4, d5⟩ := PO6.out
      simp only [Nat.zero_add] at d1 d2 d3 d4 d5
      generalize grow F x4 x5 = F' at *
      have q0 := AA6.out.a0.c
      have q1 := AA6.out.a1.c
      have q2 := AA6.out.a2.c
      have q3 := AA6.out.a3.c
      have HWW := hid hW
      clear hW
      go_upto_region 15 with fail
      generalize x5.alloc (.cells #[.int .i64 (doE f o), .int .i64 (doN f r o), .int .i64 (doM f o), .string (doT f r o)] 43) = x6 at *
      generalize x5.heap.size = pA at *
      obtain ⟨b1, hb1⟩ : ∃ b1, b1 = decide (1 ≤ o.kind ∧ o.kind ≤ 11 ∧ o.kind ≠ 9) := ⟨_, rfl⟩
      have HB1 := hid hb1
      clear hb1
      go_cut [66] (fun c wx => c = .bool b1 ∧ wx = x6)
      case first =>
        as_aux_lemma =>
          by_cases j1 : 1 ≤ o.kind
          · by_cases j2 : o.kind ≤ 11
            · by_cases j3 : o.kind = 9
              · have j3b : (o.kind != 9) = false := by simp [j3]
                go_wp2_with fail
                go_meet
                case rel => exact ⟨congrArg Value.bool (HB1.out.trans (decide_eq_false (by omega))).symm, rfl⟩
              · have j3b : (o.kind != 9) = true := by simp [j3]
                go_wp2_with fail
                go_meet
                case rel => exact ⟨congrArg Value.bool (HB1.out.trans (decide_eq_true (by omega))).symm, rfl⟩
            · go_wp2_with fail
              go_meet
              case rel => exact ⟨congrArg Value.bool (HB1.out.trans (decide_eq_false (by omega))).symm, rfl⟩
          · go_wp2_with fail
            go_meet
            case rel => exact ⟨congrArg Value.bool (HB1.out.trans (decide_eq_false (by omega))).symm, rfl⟩
      case rest =>
        as_aux_lemma =>
          obtain ⟨rfl, hwc⟩ := hcut
          obtain rfl := hwc.symm
          go_upto_if 66 with fail
          go_cut [] (fun wx => Fr (fun _ => False) x6 wx)
          case first =>
            as_aux_lemma =>
              cases b1
              · go_wp2_with fail
                go_meet
                case rel => exact Fr.refl _ _
              · have hin := of_decide_eq_true HB1.out.symm
                have hO := owed_any (LK6.out.fr ((Fr.refl (fun _ => False) _).drew) (fun h => h) (fun h => h)) (PU6.out.fr ((Fr.refl (fun _ => False) _).drew) (fun h => h)) HOK.out HRR.out o hin.1 hin.2.1 hin.2.2
                simp only [Stp.val, doV, ansV] at hO
                have HO := hid hO
                clear hO hin
                go_upto_region 16 with fail
                go_cut [74] (fun c wx => c = .bool false ∧ Fr (fun _ => False) x6 wx)
                case first =>
                  as_aux_lemma =>
                    go_region_with (go_at_call 19; refine HO.out.mono ?_; rintro e x7 ⟨rfl, g7⟩; have G7 := hid ((Fr.refl (fun _ => False) x6).drew.trans g7); have aa7 := AA6.out.fr G7.out (fun h => h); have t0 := aa7.a0.c; have t1 := aa7.a1.c; have t2 := aa7.a2.c; have t3 := aa7.a3.c; have AA7 := hid aa7; clear aa7 g7)
                    all_goals go_wp2_with fail
                    all_goals go_meet
                    all_goals exact ⟨rfl, G7.out⟩
                case rest =>
                  as_aux_lemma =>
                    obtain ⟨rfl, g7⟩ := hcut
                    have G7 := hid g7
                    clear g7
                    go_wp2_with fail
                    go_meet
                    case rel => exact G7.out
          case rest =>
            as_aux_lemma =>
              have G7 := hid hcut
              clear hcut q0 q1 q2 q3 d0 d1 d2 d3 d4 d5
              have AA7 := hid (AA6.out.fr G7.out (fun h => h))
              have SR7 := hid (SR6.out.frw G7.out (fun _ _ h => h))
              have LK7 := hid (LK6.out.fr G7.out (fun h => h) (fun h => h))
              have PO7 := hid (PO6.out.frS G7.out (fun h => h))
              have IA7 := hid (IA6.out.fr G7.out (fun _ _ _ h => h))
              have PU7 := hid (PU6.out.fr G7.out (fun h => h))
              have W7 := hid (W6.out.trans G7.out)
              have HF7 : Hid (∀ i, F' i → w.heap.size ≤ i ∧ i < wc.heap.size) := fun i hi => by have := HF6.out i hi; have := G7.out.size; omega
              clear AA6 SR6 LK6 PO6 IA6 PU6 W6 HF6 G7 HB1
              obtain ⟨d0, d1, d2, d3, d4, d5⟩ := PO7.out
              simp only [Nat.zero_add] at d1 d2 d3 d4 d5
              have q0 := AA7.out.a0.c
              have q1 := AA7.out.a1.c
              have q2 := AA7.out.a2.c
              have q3 := AA7.out.a3.c
              go_upto_region 18 with fail
              obtain ⟨b2, hb2⟩ : ∃ b2, b2 = decide (o.kind = 1 ∧ doE f o = 0) := ⟨_, rfl⟩
              have HB2 := hid hb2
              clear hb2
              generalize hx7 : wc = x7 at *
              clear hx7
              go_cut [83] (fun c wx => c = .bool b2 ∧ wx = x7)
              case first =>
                as_aux_lemma =>
                  by_cases j1 : o.kind = 1
                  · have j1b : (o.kind == 1) = true := by simp [j1]
                    by_cases j2 : doE f o = 0
                    · have j2b : (doE f o == 0) = true := by simp [j2]
                      have hb := HB2.out.trans (decide_eq_true ⟨j1, j2⟩)
                      clear j1 j2
                      go_wp2_with fail
                      go_meet
                      case rel => exact ⟨congrArg Value.bool hb.symm, rfl⟩
                    · have j2b : (doE f o == 0) = false := by simp [j2]
                      have hb := HB2.out.trans (decide_eq_false (fun h => j2 h.2))
                      clear j1 j2
                      go_wp2_with fail
                      go_meet
                      case rel => exact ⟨congrArg Value.bool hb.symm, rfl⟩
                  · have j1b : (o.kind == 1) = false := by simp [j1]
                    have hb := HB2.out.trans (decide_eq_false (fun h => j1 h.1))
                    clear j1
                    go_wp2_with fail
                    go_meet
                    case rel => exact ⟨congrArg Value.bool hb.symm, rfl⟩
              case rest =>
                as_aux_lemma =>
                  obtain ⟨rfl, hwc⟩ := hcut
                  obtain rfl := hwc.symm
                  go_upto_if 83 with fail
                  go_cut [] (fun wx => PutsAt wx P (doR f r o) ∧ Fr (fun i => i = P) x7 wx)
                  case first =>
                    as_aux_lemma =>
                      cases b2
                      · have hr' : doR f r o = r := by
                          have hn := of_decide_eq_false HB2.out.symm
                          unfold doR
                          by_cases k1 : o.kind = 1
                          · rw [if_pos k1]
                            unfold putR
                            rw [if_neg (fun h => hn ⟨k1, by unfold doE; rw [if_pos k1]; exact h⟩)]
                          · rw [if_neg k1]
                        have HR' := hid hr'
                        clear hr'
                        go_wp2_with fail
                        go_meet
                        case rel => exact ⟨by rw [HR'.out]; exact PU7.out, Fr.refl _ _⟩
                      · have hin := of_decide_eq_true HB2.out.symm
                        have hp : putE f o.a o.b o.s = 0 := by have := hin.2; unfold doE at this; rw [if_pos hin.1] at this; exact this
                        have hg : 1 ≤ o.a ∧ o.a ≤ 9 := by
                          rcases Classical.em (1 ≤ o.a ∧ o.a ≤ 9) with h | h
                          · exact h
                          · have hgb : goodB o.a = false := by simp [goodB]; omega
                            unfold putE at hp
                            rw [hgb] at hp
                            split at hp
                            · omega
                            · simp at hp
                        have hr' : doR f r o = incC r o.a := by
                          unfold doR
                          rw [if_pos hin.1]
                          unfold putR
                          rw [if_pos hp]
                        obtain ⟨n, hn⟩ : ∃ n : Nat, o.a = (n : Int) := ⟨o.a.toNat, by omega⟩
                        rw [hn] at hr' d1 hg
                        have HR' := hid hr'
                        have hn10 : n < 11 := by omega
                        have u0 := (PU7.out n hn10).c
                        have v0 := (PU7.out n hn10).f
                        have hn0 : (0 : Int) ≤ (n : Int) := by omega
                        have hn1 : (n : Int) < 11 := by omega
                        have hr0 : (0 : Int) ≤ (r (n : Int) : Int) := by omega
                        have hr1 : (r (n : Int) : Int) < 4611686018427387904 := by have := HRB.out (n : Int); omega
                        generalize hrg : (r (n : Int) : Int) = rg at hr0 hr1 u0
                        have HRG := hid hrg
                        clear hr' hin hp hg hn hrg
                        go_wp2_with fail
                        go_meet
                        case rel => exact ⟨by rw [HR'.out]; exact PU7.out.inc hn10 (by rw [HRG.out]), (Fr.refl (fun i => i = P) x7).setCell (p := ⟨P, n, none⟩) (fun _ => rfl) _⟩
                  case rest =>
                    as_aux_lemma =>
                      obtain ⟨pu8, g8⟩ := hcut
                      have PU8 := hid pu8
                      have hPF : Hid (∀ i, F' i → ¬ i = P) := fun i hi e => HP5.out (e ▸ hi)
                      have SR8 := hid (SR7.out.frw g8 hPF.out)
                      have hpq := HPQ.out
                      have AA8 := hid (AA7.out.fr g8 (fun e => by have := HPA.out; omega))
                      have LK8 := hid (LK7.out.fr g8 (fun e => by have := HDL.out.1; omega) (fun e => by have := HDL.out.2; omega))
                      have PO8 := hid (PO7.out.frS g8 (fun e => by omega))
                      have IA8 := hid (IA7.out.fr g8 (fun b off e h => by have := HNP.out b off e; omega))
                      have W8 := hid (W7.out.then g8 (fun i hi e => by have := HLP.out; omega))
                      have HF8 : Hid (∀ i, F' i → w.heap.size ≤ i ∧ i < wc.heap.size) := fun i hi => by have := HF7.out i hi; have := g8.size; omega
                      clear AA7 SR7 LK7 PO7 IA7 PU7 W7 HF7 HB2 pu8 g8 hpq d0 d1 d2 d3 d4 d5 q0 q1 q2 q3
                      generalize wc = x8 at *
                      go_wp2_with fail
                      -- Look again
                      refine (look_any SR8.out).mono ?_
                      rintro e x9 ⟨D1, E1, rfl, lk9, hD1, hE1, g9⟩
                      have LN9 := hid lk9
                      have AA9 := hid (AA8.out.fr g9 (fun h => h))
                      have SR9 := hid (SR8.out.frw g9 (fun _ _ h => h))
                      have LK9 := hid (LK8.out.fr g9 (fun h => h) (fun h => h))
                      have PO9 := hid (PO8.out.frS g9 (fun h => h))
                      have IA9 := hid (IA8.out.fr g9 (fun _ _ _ h => h))
                      have PU9 := hid (PU8.out.fr g9 (fun h => h))
                      have W9 := hid (W8.out.trans g9)
                      have HF9 : Hid (∀ i, F' i → w.heap.size ≤ i ∧ i < x9.heap.size) := fun i hi => by have := HF8.out i hi; have := g9.size; omega
                      clear AA8 SR8 LK8 PO8 IA8 PU8 W8 HF8 g9 lk9 hD1 hE1
                      go_wp2_with fail
                      generalize hf' : doF f o = f' at *
                      generalize hr' : doR f r o = r' at *
                      have HFF := hid hf'
                      have HRR2 := hid hr'
                      clear hf' hr'
                      go_loopw [16] (fun i wi => ∃ j : Nat, 1 ≤ j ∧ j ≤ 10 ∧ i = .int .i64 j ∧ Fr (fun _ => False) x9 wi) (fun i _ => 10 - (intOf i).toNat)
                      case atStart => exact ⟨1, by omega, by omega, rfl, Fr.refl _ _⟩
                      case round =>
                        as_aux_lemma =>
                          obtain ⟨j, hj1, hj2, rfl, gi⟩ := hrel
                          have GI := hid gi
                          have hj0 : (0 : Int) ≤ (j : Int) := by omega
                          by_cases hjt : j < 10
                          · have hjI : (j : Int) ≤ 9 := by omega
                            have hjJ : (j : Int) < 10 := by omega
                            have hO := fun W => due_any HOK.out r o (i := (j : Int)) (by omega) (by omega) W
                            simp only [Stp.val, doV, ansV, docV] at hO
                            rw [HFF.out] at hO
                            have HO := hid hO
                            have AAi := hid (AA9.out.fr gi (fun h => h))
                            have POi := hid (PO9.out.frS gi (fun h => h))
                            obtain ⟨d0, d1, d2, d3, d4, d5⟩ := POi.out
                            simp only [Nat.zero_add] at d1 d2 d3 d4 d5
                            have q0 := AAi.out.a0.c
                            have q1 := AAi.out.a1.c
                            have q2 := AAi.out.a2.c
                            have q3 := AAi.out.a3.c
                            have l0 := ((LK9.out.d0 j hj1 hjt).fr gi (fun h => h)).c
                            have l1 := ((LK9.out.d1 j hj1 hjt).fr gi (fun h => h)).c
                            have l2 := ((LK9.out.d2 j hj1 hjt).fr gi (fun h => h)).c
                            have l3 := ((LK9.out.e j hj1 hjt).fr gi (fun h => h)).c
                            clear hO gi
                            have n1 : po ≠ wr.heap.size := Nat.ne_of_lt (World.block_lt_of_cell? (a := ⟨po, 0, none⟩) wr d0)
                            have n2 : pA ≠ wr.heap.size := Nat.ne_of_lt (World.block_lt_of_cell? (a := ⟨pA, 0, none⟩) wr q0)
                            have n3 : D0 ≠ wr.heap.size := Nat.ne_of_lt (World.block_lt_of_cell? (a := ⟨D0, j * 3, none⟩) wr l0)
                            have n4 : E0 ≠ wr.heap.size := Nat.ne_of_lt (World.block_lt_of_cell? (a := ⟨E0, j, none⟩) wr l3)
                            go_upto_region 24 with fail
                            go_cut [17, 18] (fun p e wx => ∃ pd, p = .pointer (some ⟨pd, 0, none⟩) ∧ e = .int .i64 (getP f' j).e ∧ (At wx pd 0 (.int .i64 (getP f' j).i) ∧ At wx pd 1 (.int .i64 (getP f' j).g) ∧ At wx pd 2 (.string (getP f' j).t)) ∧ Fr (fun _ => False) wr wx)
                            case first =>
                              as_aux_lemma =>
                                go_region_held3 (fun W => W.cell? ⟨po, 0, none⟩ = some (.int .i64 o.kind) ∧ W.cell? ⟨po, 1, none⟩ = some (.int .i64 o.a) ∧ W.cell? ⟨po, 2, none⟩ = some (.int .i64 o.b) ∧ W.cell? ⟨po, 3, none⟩ = some (.int .i64 o.c) ∧ W.cell? ⟨po, 4, none⟩ = some (.string o.s) ∧ W.cell? ⟨po, 5, none⟩ = some (.string o.t) ∧ W.cell? ⟨pA, 0, none⟩ = some (.int .i64 (doE f o)) ∧ W.cell? ⟨pA, 1, none⟩ = some (.int .i64 (doN f r o)) ∧ W.cell? ⟨pA, 2, none⟩ = some (.int .i64 (doM f o)) ∧ W.cell? ⟨pA, 3, none⟩ = some (.string (doT f r o)) ∧ W.cell? ⟨D0, j * 3, none⟩ = some (.int .i64 (getP f (j : Int)).i) ∧ W.cell? ⟨D0, j * 3 + 1, none⟩ = some (.int .i64 (getP f (j : Int)).g) ∧ W.cell? ⟨D0, j * 3 + 2, none⟩ = some (.string (getP f (j : Int)).t) ∧ W.cell? ⟨E0, j, none⟩ = some (.int .i64 (getP f (j : Int)).e)) (first | go_keep | exact ⟨cell3 n1 y0, cell3 n1 y1, cell3 n1 y2, cell3 n1 y3, cell3 n1 y4, cell3 n1 y5, cell3 n2 y6, cell3 n2 y7, cell3 n2 y8, cell3 n2 y9, cell3 n3 y10, cell3 n3 y11, cell3 n3 y12, cell3 n4 y13⟩) (first | (go_at_call 20; refine (HO.out _).mono ?_; rintro e y ⟨rfl, gy⟩; have y0 : y.cell? ⟨po, 0, none⟩ = some (.int .i64 o.kind) := cellFr gy (by simp [*]); have y1 : y.cell? ⟨po, 1, none⟩ = some (.int .i64 o.a) := cellFr gy (by simp [*]); have y2 : y.cell? ⟨po, 2, none⟩ = some (.int .i64 o.b) := cellFr gy (by simp [*]); have y3 : y.cell? ⟨po, 3, none⟩ = some (.int .i64 o.c) := cellFr gy (by simp [*]); have y4 : y.cell? ⟨po, 4, none⟩ = some (.string o.s) := cellFr gy (by simp [*]); have y5 : y.cell? ⟨po, 5, none⟩ = some (.string o.t) := cellFr gy (by simp [*]); have y6 : y.cell? ⟨pA, 0, none⟩ = some (.int .i64 (doE f o)) := cellFr gy (by simp [*]); have y7 : y.cell? ⟨pA, 1, none⟩ = some (.int .i64 (doN f r o)) := cellFr gy (by simp [*]); have y8 : y.cell? ⟨pA, 2, none⟩ = some (.int .i64 (doM f o)) := cellFr gy (by simp [*]); have y9 : y.cell? ⟨pA, 3, none⟩ = some (.string (doT f r o)) := cellFr gy (by simp [*]); have y10 : y.cell? ⟨D0, j * 3, none⟩ = some (.int .i64 (getP f (j : Int)).i) := cellFr gy (by simp [*]); have y11 : y.cell? ⟨D0, j * 3 + 1, none⟩ = some (.int .i64 (getP f (j : Int)).g) := cellFr gy (by simp [*]); have y12 : y.cell? ⟨D0, j * 3 + 2, none⟩ = some (.string (getP f (j : Int)).t) := cellFr gy (by simp [*]); have y13 : y.cell? ⟨E0, j, none⟩ = some (.int .i64 (getP f (j : Int)).e) := cellFr gy (by simp [*]); first | (have p0 := (At.new wr #[.int .i64 0, .int .i64 0, .string ⟨#[]⟩] 47 (o := 0) rfl).drew.fr gy (fun h => h); have p1 := (At.new wr #[.int .i64 0, .int .i64 0, .string ⟨#[]⟩] 47 (o := 1) rfl).drew.fr gy (fun h => h); have p2 := (At.new wr #[.int .i64 0, .int .i64 0, .string ⟨#[]⟩] 47 (o := 2) rfl).drew.fr gy (fun h => h); have pc0 := p0.c; have pf0 := p0.f; have pc1 := p1.c; have pf1 := p1.f; have pc2 := p2.c; have pf2 := p2.f; have hzy := Nat.lt_of_lt_of_le (Nat.lt_succ_self wr.heap.size) (by simpa using gy.size : wr.heap.size + 1 ≤ y.heap.size); clear p0 p1 p2) | skip))
                                · go_wp2_with fail
                                  go_meet
                                  case rel => exact ⟨y.heap.size, rfl, rfl, ⟨At.new y _ _ rfl, At.new y _ _ rfl, At.new y _ _ rfl⟩, ((Fr.refl (fun _ => False) wr).drew.trans gy).alloc _⟩
                                · go_wp2_with fail
                                  go_meet
                                  case rel =>
                                    have b0 : At y wr.heap.size 0 (.int .i64 0) := ⟨pc0, pf0⟩
                                    have b1 : At y wr.heap.size 1 (.int .i64 0) := ⟨pc1, pf1⟩
                                    have b2 : At y wr.heap.size 2 (.string ⟨#[]⟩) := ⟨pc2, pf2⟩
                                    refine ⟨wr.heap.size, rfl, rfl, ⟨?_, ?_, ?_⟩, ?_⟩
                                    · exact ((b0.same _).other (by omega) _).other (by omega) _
                                    · exact ((b1.other (by omega) _).same _).other (by omega) _
                                    · exact ((b2.other (by omega) _).other (by omega) _).same _
                                    · exact ((((Fr.refl (fun _ => False) wr).alloc _).drew.trans gy).then (set3_fr _ _ _ _ _) (fun i hi e => by omega))
                            case rest =>
                              as_aux_lemma =>
                                obtain ⟨pd, rfl, rfl, ⟨b0, b1, b2⟩, gc⟩ := hcut
                                have GC := hid (GI.out.trans gc)
                                have e0 := b0.c
                                have e1 := b1.c
                                have e2 := b2.c
                                have n0 := ((LN9.out.d0 j hj1 hjt).fr GC.out (fun h => h)).c
                                have n1 := ((LN9.out.d1 j hj1 hjt).fr GC.out (fun h => h)).c
                                have n2 := ((LN9.out.d2 j hj1 hjt).fr GC.out (fun h => h)).c
                                have n3 := ((LN9.out.e j hj1 hjt).fr GC.out (fun h => h)).c
                                clear b0 b1 b2 gc HO d0 d1 d2 d3 d4 d5 q0 q1 q2 q3 l0 l1 l2 l3 AAi POi GI
                                generalize getP f' j = gq at *
                                go_wp2_with fail
                                go_quiet (fail)
                                go_wp2_with fail
                                go_roundw
                                case rel => exact ⟨j + 1, by omega, by omega, by go_num, GC.out.drewN _⟩
                                case measure => simp [intOf]; omega
                          · have hjI : ¬ (j : Int) ≤ 9 := by omega
                            obtain rfl : j = 10 := by omega
                            have AAx := hid (AA9.out.fr gi (fun h => h))
                            have SRx := hid (SR9.out.frw gi (fun _ _ h => h))
                            have LNx := hid (LN9.out.fr gi (fun h => h) (fun h => h))
                            have POx := hid (PO9.out.frS gi (fun h => h))
                            have IAx := hid (IA9.out.fr gi (fun _ _ _ h => h))
                            have PUx := hid (PU9.out.fr gi (fun h => h))
                            have Wx := hid (W9.out.trans gi)
                            have HFx : Hid (∀ i, F' i → w.heap.size ≤ i ∧ i < wr.heap.size) := fun i hi => by have := HF9.out i hi; have := gi.size; omega
                            clear gi GI AA9 SR9 LN9 PO9 IA9 PU9 W9 HF9 LK9
                            go_wp2_with fail
                            refine (agree_any SRx.out LNx.out).mono ?_
                            rintro e z1 ⟨rfl, g1⟩
                            have G1 := hid g1
                            clear g1
                            go_wp2_with fail
                            refine (shown_any (LNx.out.fr G1.out (fun h => h) (fun h => h)) (PUx.out.fr G1.out (fun h => h)) SRx.out.ok (fun i => by have := HC.out i; omega)).mono ?_
                            rintro e z2 ⟨rfl, g2⟩
                            have G2 := hid (G1.out.trans g2)
                            clear g2 G1
                            go_wp2_with fail
                            refine (show_any (SRx.out.frw G2.out (fun _ _ h => h)) (fun i => by have := HC.out i; omega)).mono ?_
                            rintro e z3 ⟨rfl, g3⟩
                            have G3 := hid (G2.out.trans g3)
                            clear g3 G2
                            have POz := hid (POx.out.frS G3.out (fun h => h))
                            have AAz := hid (AAx.out.fr G3.out (fun h => h))
                            have dk := POz.out.1
                            have qs := AAz.out.a3.c
                            go_upto_region 32 with fail
                            go_cut [155] (fun c wx => c = .bool false ∧ wx = z3)
                            case first =>
                              as_aux_lemma =>
                                by_cases k9 : o.kind = 9
                                · have j9 : (o.kind == 9) = true := by simp [k9]
                                  have hT : doT f r o = bs (showL f' r') := by
                                    rw [← HFF.out, ← HRR2.out]
                                    simp [doT, doF, doR, k9]
                                  rw [hT] at qs
                                  clear k9 hT
                                  go_wp2_with fail
                                  go_meet
                                  case rel => exact ⟨rfl, rfl⟩
                                · have j9 : (o.kind == 9) = false := by simp [k9]
                                  clear k9
                                  go_wp2_with fail
                                  go_meet
                                  case rel => exact ⟨rfl, rfl⟩
                            case rest =>
                              as_aux_lemma =>
                                obtain ⟨rfl, hwc⟩ := hcut
                                obtain rfl := hwc.symm
                                clear dk qs
                                go_wp2_with fail
                                refine (ints_any (l := ids f) cap3 (IAx.out.fr G3.out (fun _ _ _ h => h)) hlen9).mono ?_
                                rintro e z4 ⟨rfl, g4⟩
                                rw [HWW.out]
                                have G4 := hid (G3.out.trans g4)
                                clear g4 G3
                                have SRz := hid (SRx.out.frw G4.out (fun _ _ h => h))
                                have PUz := hid (PUx.out.fr G4.out (fun h => h))
                                have Wz := hid (Wx.out.trans G4.out)
                                have HFz : Hid (∀ i, F' i → w.heap.size ≤ i ∧ i < z4.heap.size) := fun i hi => by have := HFx.out i hi; have := G4.out.size; omega
                                clear SRx PUx Wx HFx LNx POx IAx AAx POz AAz G4
                                go_wp2_with fail
                                go_loopw [20] (fun i wi => ∃ j : Nat, j ≤ 11 ∧ i = .int .i64 j ∧ Fr (fun _ => False) z4 wi) (fun i _ => 11 - (intOf i).toNat)
                                case atStart => exact ⟨0, by omega, rfl, Fr.refl _ _⟩
                                case round =>
                                  as_aux_lemma =>
                                    obtain ⟨j, hj2, rfl, gi⟩ := hrel
                                    have GI := hid gi
                                    have hj0 : (0 : Int) ≤ (j : Int) := by omega
                                    by_cases hjt : j < 11
                                    · have hjI : (j : Int) ≤ 10 := by omega
                                      have hjJ : (j : Int) < 11 := by omega
                                      have l0 := ((PUz.out j hjt).fr gi (fun h => h)).c
                                      have SRi := hid (SRz.out.frw gi (fun _ _ h => h))
                                      clear gi
                                      go_wp2_with fail
                                      go_quiet (first | (go_at_call 23; exact Calls.quiet_of_same (revs_any (SRi.out.frw ((Fr.refl (fun _ => False) _).drewN _) (fun _ _ h => h)) _)))
                                      go_wp2_with fail
                                      exact ⟨⟨j + 1, by omega, by go_num, GI.out.drewN _⟩, by simp [intOf]; omega⟩
                                    · have hjI : ¬ (j : Int) ≤ 10 := by omega
                                      have SRi := hid (SRz.out.frw gi (fun _ _ h => h))
                                      have PUi := hid (PUz.out.fr gi (fun h => h))
                                      have Wi := hid (Wz.out.trans gi)
                                      have HFi : Hid (∀ i, F' i → w.heap.size ≤ i ∧ i < wr.heap.size) := fun i hi => by have := HFz.out i hi; have := gi.size; omega
                                      clear gi
                                      go_wp2_with fail
                                      go_roundw
                                      case rel => exact ⟨k + 1, F', f', r', by omega, by go_num, ⟨SRi.out, PUi.out, HP5.out, HFi.out, HLP.out, Wi.out, HC.out⟩⟩
                                      case measure => simp [intOf]; omega

theorem keepsUpTo_none (w : World) (a : Option Addr) (cap : Nat) :
    Calls Try.prog 8 #[.slice a 0 cap] w fun e w' => e = .returned (.int .i64 (-1)) ∧ Fr (fun _ => False) w w' := by
  have m11 := mk11
  go_enter Try.func8, Try.ntmps8
  go_wp2_with fail
  refine (examples_any _).mono ?_
  rintro e w1 ⟨rfl, f1⟩
  have F1 := hid f1
  clear f1
  go_wp2_with fail
  refine (spelt_any _).mono ?_
  rintro e w2 ⟨rfl, f2⟩
  have F2 := hid (F1.out.trans f2)
  clear f2 F1
  go_wp2_with fail
  refine (new_any _).mono ?_
  rintro e w3 ⟨rfl, hs3, f3⟩
  have F3 := hid (F2.out.trans f3)
  clear hs3 f3 F2
  go_wp2_with fail
  refine wp_loop_rounds 1 ?_
  rw [rounds_succ]
  go_wp2_with fail
  go_ret
  exact ⟨rfl, F3.out.alloc _⟩

end Go.Proofs.Qxb6500451a
