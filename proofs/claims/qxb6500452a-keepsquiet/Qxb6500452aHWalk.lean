/- The walk of the gate's law: both sides. -/
import Derived.Test.Qxb6500452aHDo
namespace Go.Proofs.Qxb6500452a
open Go Go.RowKit
set_option maxRecDepth 100000
set_option maxHeartbeats 1600000
set_option linter.unusedSimpArgs false
set_option linter.unusedVariables false

/-- Both sides stand at one state. -/
structure Both (w0 w : World) (b : LB) (G Q X M pB : Nat) (s : Led) (c : Cts) : Prop where
  r : GT w G b s c
  m : GM w Q X M s c
  ap : ∀ i, SG b G i → ¬ SQ X M Q i
  lo : ∀ i, SG b G i ∨ SQ X M Q i → w0.heap.size ≤ i ∧ i ≠ pB
  p0 : At w pB 0 (.pointer (some ⟨b.D, 0, none⟩))
  p1 : At w pB 1 (.pointer (some ⟨b.T, 0, none⟩))
  pn : w0.heap.size ≤ pB
  f : Fr (fun _ => False) w0 w
section
variable {w0 w w' : World} {b : LB} {G Q X M pB : Nat} {s s' : Led} {c c' : Cts}
theorem Both.turn (h : Both w0 w b G Q X M pB s c) (hf : Fr (fun i => SG b G i ∨ SQ X M Q i) w w') (r : GT w' G b s' c') (m : GM w' Q X M s' c') : Both w0 w' b G Q X M pB s' c' :=
  ⟨r, m, h.ap, h.lo, h.p0.fr hf (fun c => (h.lo _ c).2 rfl), h.p1.fr hf (fun c => (h.lo _ c).2 rfl), h.pn, h.f.then hf (fun i hi c => by have := (h.lo i c).1; omega)⟩
theorem Both.quiet (h : Both w0 w b G Q X M pB s c) (hf : Fr (fun _ => False) w w') : Both w0 w' b G Q X M pB s c :=
  h.turn (hf.mono (fun _ _ h => h.elim)) (h.r.fr hf (fun _ _ h => h)) (h.m.fr hf (fun _ _ h => h))
end

theorem both_new {w0 wa w2 w3 : World} {pB G Q X M : Nat} {b : LB} (h0 : Fr (fun _ => False) w0 wa) (p0 : At wa pB 0 (.pointer (some ⟨b.D, 0, none⟩))) (p1 : At wa pB 1 (.pointer (some ⟨b.T, 0, none⟩))) (pn : w0.heap.size ≤ pB) (hb : ∀ i, SL b i → w0.heap.size ≤ i ∧ i ≠ pB)
    (hG : wa.heap.size ≤ G) (gt : GT w2 G b (led0 L.init) ⟨0, 0, 0, 0⟩) (f2 : Fr (fun _ => False) wa w2) (hM : w2.heap.size ≤ M) (hX : M < X) (hQ : X < Q) (gm : GM w3 Q X M (led0 L.init) ⟨0, 0, 0, 0⟩) (f3 : Fr (fun _ => False) w2 w3) :
    Both w0 w3 b G Q X M pB (led0 L.init) ⟨0, 0, 0, 0⟩ := by
  have z0 := h0.size
  have z2 := f2.size
  have hpl := p0.lt
  have hm : ∀ i, SQ X M Q i → w2.heap.size ≤ i := by
    rintro i (c | c)
    · rcases c with rfl | rfl <;> omega
    · omega
  have hg : ∀ i, SG b G i → w0.heap.size ≤ i ∧ i ≠ pB := by
    rintro i (c | c)
    · exact hb i c
    · omega
  refine ⟨gt.fr f3 (fun _ _ h => h), gm, fun i c d => by have := gt.lt i c; have := hm i d; omega, ?_, (p0.fr f2 (fun h => h)).fr f3 (fun h => h), (p1.fr f2 (fun h => h)).fr f3 (fun h => h), pn, (h0.trans f2).trans f3⟩
  rintro i (c | c)
  · exact hg i c
  · have := hm i c; omega

theorem walk_any {w : World} {a : Option Addr} {len cap : Nat} (f : Nat → Stp) (hs : ∀ i, i < len → ∃ b off, a = some ⟨b, off, none⟩ ∧ StpAt w b (off + i * 6) (f i)) (hlen : len ≤ 9223372036854775807) (quiet blind : Bool) :
    Calls Try.prog 21 #[.slice a len cap, .bool quiet, .bool blind] w fun e w' => ∃ n : Int, e = .returned (.tuple #[.int .i64 (-1), .int .i64 n]) ∧ Fr (fun _ => False) w w' := by
  have hlen' : (len : Int) ≤ 9223372036854775807 := by omega
  have HS := hid hs
  clear hs
  go_enter Try.func21, Try.ntmps21
  go_wp2_with fail
  refine (gground_any _).mono ?_
  rintro e w1 ⟨lb, rfl, lr, hl, f1⟩
  have R1 := hid lr
  have N1 := hid hl
  have F1 := hid f1
  clear lr hl f1
  go_upto_region 2 with fail
  have FA := hid (F1.out.alloc (.cells #[.pointer (some ⟨lb.D, 0, none⟩), .pointer (some ⟨lb.T, 0, none⟩)] 30))
  have PA0 := hid (At.new w1 #[.pointer (some ⟨lb.D, 0, none⟩), .pointer (some ⟨lb.T, 0, none⟩)] 30 (o := 0) rfl)
  have PA1 := hid (At.new w1 #[.pointer (some ⟨lb.D, 0, none⟩), .pointer (some ⟨lb.T, 0, none⟩)] 30 (o := 1) rfl)
  have R2 := hid (R1.out.fr ((Fr.refl (fun _ => False) w1).alloc (.cells #[.pointer (some ⟨lb.D, 0, none⟩), .pointer (some ⟨lb.T, 0, none⟩)] 30)) (fun _ _ h => h))
  have HZ : Hid (w.heap.size ≤ w1.heap.size ∧ ∀ i, SL lb i → w.heap.size ≤ i ∧ i ≠ w1.heap.size) := ⟨F1.out.size, fun i c => ⟨N1.out i c, Nat.ne_of_lt (R1.out.lt i c)⟩⟩
  clear R1 F1 N1
  generalize w1.alloc (.cells #[.pointer (some ⟨lb.D, 0, none⟩), .pointer (some ⟨lb.T, 0, none⟩)] 30) = wa at *
  generalize w1.heap.size = pB at *
  have p0 := PA0.out.c
  go_wp2_with fail
  refine (gnew_any R2.out).mono ?_
  rintro e w2 ⟨G, hG, rfl, gt, f2⟩
  have GT2 := hid gt
  have HG := hid hG
  have F2 := hid f2
  clear hG gt f2 p0
  go_wp2_with fail
  refine (mgnew_any _).mono ?_
  rintro e w3 ⟨Q, X, M, hM, hX, hQ, rfl, gm, f3⟩
  have HB := hid (both_new FA.out PA0.out PA1.out HZ.out.1 HZ.out.2 HG.out GT2.out F2.out hM hX hQ gm f3)
  clear hM hX hQ gm f3 FA PA0 PA1 HZ R2 HG GT2 F2
  go_wp2_with fail
  go_loopw [9, 10, 11] (fun x m i wr => ∃ (k : Int) (s : Led) (c : Cts) (lb : LB) (G Q X M : Nat), -1 ≤ k ∧ k ≤ (len : Int) ∧ x = .pointer (some ⟨G, 0, none⟩) ∧ m = .pointer (some ⟨Q, 0, none⟩) ∧ i = .int .i64 k ∧ Both w wr lb G Q X M pB s c) (fun _ _ i _ => ((len : Int) - intOf i).toNat)
  case atStart => exact ⟨-1, led0 L.init, ⟨0, 0, 0, 0⟩, lb, G, Q, X, M, by omega, by omega, rfl, rfl, rfl, HB.out⟩
  case round =>
    clear HB
    obtain ⟨k, s, c, lb, G, Q, X, M, hk1, hkl, rfl, rfl, rfl, hB⟩ := hrel
    have HB := hid hB
    clear hB
    by_cases hneg : k = -1
    · subst hneg
      clear hk1 hkl
      have hltI : (-1 : Int) < (len : Int) := by omega
      go_wp2_with fail
      refine (max0_any (-1) wr).mono ?_
      rintro e z ⟨⟨n0, rfl⟩, hz⟩
      obtain rfl := hz.symm
      clear hz
      go_upto_region 18 with fail
      have HB5 := HB
      clear HB
      cases blind
      · have p0 := HB5.out.p0.c
        have p1 := HB5.out.p1.c
        go_wp2_with fail
        refine (mledger_any HB5.out.m).mono ?_
        rintro e z ⟨rfl, hz⟩
        obtain rfl := hz.symm
        clear hz
        go_wp2_with fail
        refine (mlshow_any HB5.out.m.m).mono ?_
        rintro e w6 ⟨rfl, hf6⟩
        have HB6 := hid (HB5.out.quiet hf6)
        clear hf6 p0 p1 HB5
        have p0 := HB6.out.p0.c
        have p1 := HB6.out.p1.c
        have HU := under_any HB6.out.r.r
        unfold belV at HU
        have HU := hid HU
        go_wp2_with fail
        refine HU.out.mono ?_
        rintro e w7 ⟨rfl, hf7⟩
        have HB7 := hid (HB6.out.quiet hf7)
        clear hf7 p0 p1 HB6 HU
        cases quiet
        · go_wp2_with fail
          refine (gshow_any HB7.out.r).mono ?_
          rintro e w8 ⟨rfl, hf8⟩
          have HB8 := hid (HB7.out.quiet hf8)
          clear hf8 HB7
          go_wp2_with fail
          refine (mgshow_any HB8.out.m).mono ?_
          rintro e w9 ⟨rfl, hf9⟩
          have HB9 := hid (HB8.out.quiet hf9)
          clear hf9 HB8
          go_wp2_with fail
          refine (gcheck_any HB9.out.r).mono ?_
          rintro e w10 ⟨rfl, hf10⟩
          have HB10 := hid (HB9.out.quiet hf10)
          clear hf10 HB9
          have p0 := HB10.out.p0.c
          have p1 := HB10.out.p1.c
          have HU := sound_any HB10.out.r.r
          unfold belV at HU
          have HU := hid HU
          go_wp2_with fail
          refine HU.out.mono ?_
          rintro e w11 ⟨rfl, hf11⟩
          have HB7 := hid (HB10.out.quiet hf11)
          clear hf11 p0 p1 HB10 HU
          go_wp2_with fail
          exact ⟨⟨-1 + 1, s, c, lb, G, Q, X, M, by omega, by omega, rfl, rfl, by go_num, HB7.out⟩, by simp [intOf] <;> omega⟩
        · go_wp2_with fail
          exact ⟨⟨-1 + 1, s, c, lb, G, Q, X, M, by omega, by omega, rfl, rfl, by go_num, HB7.out⟩, by simp [intOf] <;> omega⟩
      · have HB7 := HB5
        clear HB5
        cases quiet
        · go_wp2_with fail
          refine (gshow_any HB7.out.r).mono ?_
          rintro e w8 ⟨rfl, hf8⟩
          have HB8 := hid (HB7.out.quiet hf8)
          clear hf8 HB7
          go_wp2_with fail
          refine (mgshow_any HB8.out.m).mono ?_
          rintro e w9 ⟨rfl, hf9⟩
          have HB9 := hid (HB8.out.quiet hf9)
          clear hf9 HB8
          go_wp2_with fail
          refine (gcheck_any HB9.out.r).mono ?_
          rintro e w10 ⟨rfl, hf10⟩
          have HB10 := hid (HB9.out.quiet hf10)
          clear hf10 HB9
          have p0 := HB10.out.p0.c
          have p1 := HB10.out.p1.c
          have HU := sound_any HB10.out.r.r
          unfold belV at HU
          have HU := hid HU
          go_wp2_with fail
          refine HU.out.mono ?_
          rintro e w11 ⟨rfl, hf11⟩
          have HB7 := hid (HB10.out.quiet hf11)
          clear hf11 p0 p1 HB10 HU
          go_wp2_with fail
          exact ⟨⟨-1 + 1, s, c, lb, G, Q, X, M, by omega, by omega, rfl, rfl, by go_num, HB7.out⟩, by simp [intOf] <;> omega⟩
        · go_wp2_with fail
          exact ⟨⟨-1 + 1, s, c, lb, G, Q, X, M, by omega, by omega, rfl, rfl, by go_num, HB7.out⟩, by simp [intOf] <;> omega⟩
    obtain ⟨j, rfl⟩ : ∃ j : Nat, k = (j : Int) := ⟨k.toNat, by omega⟩
    clear hneg hk1
    have hk0 : (0 : Int) ≤ (j : Int) := by omega
    by_cases hlt : j < len
    · have hltI : (j : Int) < (len : Int) := by omega
      by_cases hmx : (j : Int) < 4398046511104
      · obtain ⟨b, off, ha, hst⟩ := HS.out j hlt
        subst ha
        have hst := hst.fr HB.out.f
        clear HS
        obtain ⟨c0, c1, c2, c3, c4, c5⟩ := hst
        generalize f j = o at *
        go_wp2_with fail
        refine (max0_any (j : Int) wr).mono ?_
        rintro e z ⟨⟨n0, rfl⟩, hz⟩
        obtain rfl := hz.symm
        clear hz
        go_upto_region 10 with fail
        have HW := hid (HB.out.quiet ((Fr.refl (fun _ => False) wr).alloc (.cells #[.int .i64 o.kind, .int .i64 o.a, .int .i64 o.b, .int .i64 o.c, .string o.s, .string o.t] 65)))
        have HPO := hid (StpAt.new wr o)
        have hzO : wr.heap.size < (wr.alloc (.cells #[.int .i64 o.kind, .int .i64 o.a, .int .i64 o.b, .int .i64 o.c, .string o.s, .string o.t] 65)).heap.size := by simp
        have HOL : Hid (∀ i, (SG lb G i ∨ SQ X M Q i ∨ i = pB) → i ≠ wr.heap.size) := by
          rintro i (c | c | c)
          · exact Nat.ne_of_lt (HB.out.r.lt i c)
          · exact Nat.ne_of_lt (HB.out.m.lt i c)
          · rw [c]; exact Nat.ne_of_lt HB.out.p0.lt
        clear c0 c1 c2 c3 c4 c5 HB
        generalize wr.alloc (.cells #[.int .i64 o.kind, .int .i64 o.a, .int .i64 o.b, .int .i64 o.c, .string o.s, .string o.t] 65) = W at *
        generalize wr.heap.size = pO at *
        obtain ⟨d0, d1, d2, d3, d4, d5⟩ := HPO.out
        simp only [Nat.zero_add] at d1 d2 d3 d4 d5
        by_cases h1 : o.kind = 1
        · have h1b : (o.kind == 1) = true := beq_iff_eq.2 h1
          clear h1
          go_wp2_with fail
          refine (gground_any _).mono ?_
          rintro e w1 ⟨lb, rfl, lr, hl, f1⟩
          have P0 := hid (HW.out.p0.fr f1 (fun h => h))
          have P1 := hid (HW.out.p1.fr f1 (fun h => h))
          have np : ∀ i, SL lb i → i ≠ pB := fun i c => by have := hl i c; have := HW.out.p0.lt; omega
          have HZ : Hid (∀ i, SL lb i → w.heap.size ≤ i ∧ i ≠ pB) := fun i c => ⟨by have := hl i c; have := HW.out.f.size; omega, np i c⟩
          have fs : Fr (fun i => i = pB) w1 ((w1.setCell ⟨pB, 0, none⟩ (.pointer (some ⟨lb.D, 0, none⟩))).setCell ⟨pB, 1, none⟩ (.pointer (some ⟨lb.T, 0, none⟩))) := ((Fr.refl (fun i => i = pB) w1).setCell (p := ⟨pB, 0, none⟩) (fun _ => rfl) _).setCell (p := ⟨pB, 1, none⟩) (fun _ => rfl) _
          have R2 := hid (lr.fr fs (fun i c e => np i c e))
          have PA0 := hid ((P0.out.same (.pointer (some ⟨lb.D, 0, none⟩))).other (b' := pB) (o' := 1) (by omega) (.pointer (some ⟨lb.T, 0, none⟩)))
          have PA1 := hid ((P1.out.other (b' := pB) (o' := 0) (by omega) (.pointer (some ⟨lb.D, 0, none⟩))).same (.pointer (some ⟨lb.T, 0, none⟩)))
          have FA : Hid (Fr (fun _ => False) w ((w1.setCell ⟨pB, 0, none⟩ (.pointer (some ⟨lb.D, 0, none⟩))).setCell ⟨pB, 1, none⟩ (.pointer (some ⟨lb.T, 0, none⟩)))) := (HW.out.f.trans f1).then fs (fun i hi e => by have := HW.out.pn; omega)
          have PN := hid HW.out.pn
          have q0 := P0.out.c
          have q1 := P1.out.c
          have x0 := P0.out.f
          have x1 := P1.out.f
          clear lr hl f1 np fs HW P0 P1 HOL
          go_upto_region 12 with fail
          clear q0 q1 x0 x1
          generalize (w1.setCell ⟨pB, 0, none⟩ (.pointer (some ⟨lb.D, 0, none⟩))).setCell ⟨pB, 1, none⟩ (.pointer (some ⟨lb.T, 0, none⟩)) = wa at *
          have p0 := PA0.out.c
          go_wp2_with fail
          refine (gnew_any R2.out).mono ?_
          rintro e w2 ⟨G, hG, rfl, gt, f2⟩
          have GT2 := hid gt
          have HG := hid hG
          have F2 := hid f2
          clear hG gt f2 p0
          go_wp2_with fail
          refine (mgnew_any _).mono ?_
          rintro e w3 ⟨Q, X, M, hM, hX, hQ, rfl, gm, f3⟩
          have HB5 := hid (both_new FA.out PA0.out PA1.out PN.out HZ.out HG.out GT2.out F2.out hM hX hQ gm f3)
          clear hM hX hQ gm f3 FA PA0 PA1 HZ R2 HG GT2 F2 PN d0 d1 d2 d3 d4 d5 HPO
          go_upto_region 18 with fail
          cases blind
          · have p0 := HB5.out.p0.c
            have p1 := HB5.out.p1.c
            go_wp2_with fail
            refine (mledger_any HB5.out.m).mono ?_
            rintro e z ⟨rfl, hz⟩
            obtain rfl := hz.symm
            clear hz
            go_wp2_with fail
            refine (mlshow_any HB5.out.m.m).mono ?_
            rintro e w6 ⟨rfl, hf6⟩
            have HB6 := hid (HB5.out.quiet hf6)
            clear hf6 p0 p1 HB5
            have p0 := HB6.out.p0.c
            have p1 := HB6.out.p1.c
            have HU := under_any HB6.out.r.r
            unfold belV at HU
            have HU := hid HU
            go_wp2_with fail
            refine HU.out.mono ?_
            rintro e w7 ⟨rfl, hf7⟩
            have HB7 := hid (HB6.out.quiet hf7)
            clear hf7 p0 p1 HB6 HU
            cases quiet
            · go_wp2_with fail
              refine (gshow_any HB7.out.r).mono ?_
              rintro e w8 ⟨rfl, hf8⟩
              have HB8 := hid (HB7.out.quiet hf8)
              clear hf8 HB7
              go_wp2_with fail
              refine (mgshow_any HB8.out.m).mono ?_
              rintro e w9 ⟨rfl, hf9⟩
              have HB9 := hid (HB8.out.quiet hf9)
              clear hf9 HB8
              go_wp2_with fail
              refine (gcheck_any HB9.out.r).mono ?_
              rintro e w10 ⟨rfl, hf10⟩
              have HB10 := hid (HB9.out.quiet hf10)
              clear hf10 HB9
              have p0 := HB10.out.p0.c
              have p1 := HB10.out.p1.c
              have HU := sound_any HB10.out.r.r
              unfold belV at HU
              have HU := hid HU
              go_wp2_with fail
              refine HU.out.mono ?_
              rintro e w11 ⟨rfl, hf11⟩
              have HB7 := hid (HB10.out.quiet hf11)
              clear hf11 p0 p1 HB10 HU
              go_wp2_with fail
              exact ⟨⟨(j : Int) + 1, led0 L.init, ⟨0, 0, 0, 0⟩, lb, G, Q, X, M, by omega, by omega, rfl, rfl, by go_num, HB7.out⟩, by simp [intOf] <;> omega⟩
            · go_wp2_with fail
              exact ⟨⟨(j : Int) + 1, led0 L.init, ⟨0, 0, 0, 0⟩, lb, G, Q, X, M, by omega, by omega, rfl, rfl, by go_num, HB7.out⟩, by simp [intOf] <;> omega⟩
          · have HB7 := HB5
            clear HB5
            cases quiet
            · go_wp2_with fail
              refine (gshow_any HB7.out.r).mono ?_
              rintro e w8 ⟨rfl, hf8⟩
              have HB8 := hid (HB7.out.quiet hf8)
              clear hf8 HB7
              go_wp2_with fail
              refine (mgshow_any HB8.out.m).mono ?_
              rintro e w9 ⟨rfl, hf9⟩
              have HB9 := hid (HB8.out.quiet hf9)
              clear hf9 HB8
              go_wp2_with fail
              refine (gcheck_any HB9.out.r).mono ?_
              rintro e w10 ⟨rfl, hf10⟩
              have HB10 := hid (HB9.out.quiet hf10)
              clear hf10 HB9
              have p0 := HB10.out.p0.c
              have p1 := HB10.out.p1.c
              have HU := sound_any HB10.out.r.r
              unfold belV at HU
              have HU := hid HU
              go_wp2_with fail
              refine HU.out.mono ?_
              rintro e w11 ⟨rfl, hf11⟩
              have HB7 := hid (HB10.out.quiet hf11)
              clear hf11 p0 p1 HB10 HU
              go_wp2_with fail
              exact ⟨⟨(j : Int) + 1, led0 L.init, ⟨0, 0, 0, 0⟩, lb, G, Q, X, M, by omega, by omega, rfl, rfl, by go_num, HB7.out⟩, by simp [intOf] <;> omega⟩
            · go_wp2_with fail
              exact ⟨⟨(j : Int) + 1, led0 L.init, ⟨0, 0, 0, 0⟩, lb, G, Q, X, M, by omega, by omega, rfl, rfl, by go_num, HB7.out⟩, by simp [intOf] <;> omega⟩
        · have h1b : (o.kind == 1) = false := beq_eq_false_iff_ne.2 h1
          clear h1
          have HA := gdo_any HW.out.r o
          simp only [Stp.val, ansV] at HA
          have HA := hid HA
          go_wp2_with fail
          refine HA.out.mono ?_
          rintro e w4 ⟨rfl, hr4, hf4⟩
          have n4 : ¬ SG lb G pO := fun c => HOL.out pO (.inl c) rfl
          have HP4 := hid (HPO.out.frS hf4 n4)
          have R4 := hid hr4
          have F4 := hid hf4
          have M4 := hid (HW.out.m.fr hf4 (fun i c d => HW.out.ap i d c))
          have hz4 : pO < w4.heap.size := Nat.lt_of_lt_of_le hzO hf4.size
          clear hr4 hf4 n4 HA d0 d1 d2 d3 d4 d5
          obtain ⟨d0, d1, d2, d3, d4, d5⟩ := HP4.out
          simp only [Nat.zero_add] at d1 d2 d3 d4 d5
          go_wp2_with fail
          have FA := hid ((Fr.refl (fun _ => False) w4).alloc (.cells #[.int .i64 (doE s o), .int .i64 0, .int .i64 0, .string (doT s c o)] 68))
          have AN := hid (fun q v (hv : (#[.int .i64 (doE s o), .int .i64 0, .int .i64 0, .string (doT s c o)] : Array Value)[q]? = some v) => At.new w4 (#[.int .i64 (doE s o), .int .i64 0, .int .i64 0, .string (doT s c o)] : Array Value) 68 (o := q) hv)
          have hza : w4.heap.size < (w4.alloc (.cells #[.int .i64 (doE s o), .int .i64 0, .int .i64 0, .string (doT s c o)] 68)).heap.size := by simp
          have NA : Hid (¬ SQ X M Q w4.heap.size) := fun c => by have := M4.out.lt _ c; omega
          generalize w4.alloc (.cells #[.int .i64 (doE s o), .int .i64 0, .int .i64 0, .string (doT s c o)] 68) = wa at *
          generalize w4.heap.size = pA at *
          have HA := gdom_any (M4.out.fr FA.out (fun _ _ h => h)) o
          simp only [Stp.val, ansV] at HA
          have HA := hid HA
          refine HA.out.mono ?_
          rintro e w5 ⟨rfl, hm5, hf5⟩
          have a0 := ((AN.out 0 _ rfl).fr hf5 NA.out).c
          have a1 := ((AN.out 1 _ rfl).fr hf5 NA.out).c
          have a2 := ((AN.out 2 _ rfl).fr hf5 NA.out).c
          have a3 := ((AN.out 3 _ rfl).fr hf5 NA.out).c
          have hzb : pA < w5.heap.size := Nat.lt_of_lt_of_le hza hf5.size
          have HB4 : Hid (Both w w5 lb G Q X M pB (doS s o) (doC s c o)) := by
            have r5 := (R4.out.fr FA.out (fun _ _ h => h)).fr hf5 (fun i c d => HW.out.ap i c d)
            exact HW.out.turn (((F4.out.mono (fun _ _ h => .inl h)).trans (FA.out.mono (fun _ _ h => h.elim))).trans (hf5.mono (fun _ _ h => .inr h))) r5 hm5
          clear hm5 hf5 HA d0 d1 d2 d3 d4 d5 HP4 R4 F4 M4 FA AN NA HW HPO HOL
          go_upto_region 18 with fail
          have HB5 := hid (HB4.out.quiet ((Fr.refl (fun _ => False) w5).alloc (.cells #[.int .i64 (doE s o), .int .i64 0, .int .i64 0, .string (doT s c o)] 68)))
          clear a0 a1 a2 a3 HB4
          generalize w5.alloc (.cells #[.int .i64 (doE s o), .int .i64 0, .int .i64 0, .string (doT s c o)] 68) = W5 at *
          cases blind
          · have p0 := HB5.out.p0.c
            have p1 := HB5.out.p1.c
            go_wp2_with fail
            refine (mledger_any HB5.out.m).mono ?_
            rintro e z ⟨rfl, hz⟩
            obtain rfl := hz.symm
            clear hz
            go_wp2_with fail
            refine (mlshow_any HB5.out.m.m).mono ?_
            rintro e w6 ⟨rfl, hf6⟩
            have HB6 := hid (HB5.out.quiet hf6)
            clear hf6 p0 p1 HB5
            have p0 := HB6.out.p0.c
            have p1 := HB6.out.p1.c
            have HU := under_any HB6.out.r.r
            unfold belV at HU
            have HU := hid HU
            go_wp2_with fail
            refine HU.out.mono ?_
            rintro e w7 ⟨rfl, hf7⟩
            have HB7 := hid (HB6.out.quiet hf7)
            clear hf7 p0 p1 HB6 HU
            cases quiet
            · go_wp2_with fail
              refine (gshow_any HB7.out.r).mono ?_
              rintro e w8 ⟨rfl, hf8⟩
              have HB8 := hid (HB7.out.quiet hf8)
              clear hf8 HB7
              go_wp2_with fail
              refine (mgshow_any HB8.out.m).mono ?_
              rintro e w9 ⟨rfl, hf9⟩
              have HB9 := hid (HB8.out.quiet hf9)
              clear hf9 HB8
              go_wp2_with fail
              refine (gcheck_any HB9.out.r).mono ?_
              rintro e w10 ⟨rfl, hf10⟩
              have HB10 := hid (HB9.out.quiet hf10)
              clear hf10 HB9
              have p0 := HB10.out.p0.c
              have p1 := HB10.out.p1.c
              have HU := sound_any HB10.out.r.r
              unfold belV at HU
              have HU := hid HU
              go_wp2_with fail
              refine HU.out.mono ?_
              rintro e w11 ⟨rfl, hf11⟩
              have HB7 := hid (HB10.out.quiet hf11)
              clear hf11 p0 p1 HB10 HU
              go_wp2_with fail
              exact ⟨⟨(j : Int) + 1, doS s o, doC s c o, lb, G, Q, X, M, by omega, by omega, rfl, rfl, by go_num, HB7.out⟩, by simp [intOf] <;> omega⟩
            · go_wp2_with fail
              exact ⟨⟨(j : Int) + 1, doS s o, doC s c o, lb, G, Q, X, M, by omega, by omega, rfl, rfl, by go_num, HB7.out⟩, by simp [intOf] <;> omega⟩
          · have HB7 := HB5
            clear HB5
            cases quiet
            · go_wp2_with fail
              refine (gshow_any HB7.out.r).mono ?_
              rintro e w8 ⟨rfl, hf8⟩
              have HB8 := hid (HB7.out.quiet hf8)
              clear hf8 HB7
              go_wp2_with fail
              refine (mgshow_any HB8.out.m).mono ?_
              rintro e w9 ⟨rfl, hf9⟩
              have HB9 := hid (HB8.out.quiet hf9)
              clear hf9 HB8
              go_wp2_with fail
              refine (gcheck_any HB9.out.r).mono ?_
              rintro e w10 ⟨rfl, hf10⟩
              have HB10 := hid (HB9.out.quiet hf10)
              clear hf10 HB9
              have p0 := HB10.out.p0.c
              have p1 := HB10.out.p1.c
              have HU := sound_any HB10.out.r.r
              unfold belV at HU
              have HU := hid HU
              go_wp2_with fail
              refine HU.out.mono ?_
              rintro e w11 ⟨rfl, hf11⟩
              have HB7 := hid (HB10.out.quiet hf11)
              clear hf11 p0 p1 HB10 HU
              go_wp2_with fail
              exact ⟨⟨(j : Int) + 1, doS s o, doC s c o, lb, G, Q, X, M, by omega, by omega, rfl, rfl, by go_num, HB7.out⟩, by simp [intOf] <;> omega⟩
            · go_wp2_with fail
              exact ⟨⟨(j : Int) + 1, doS s o, doC s c o, lb, G, Q, X, M, by omega, by omega, rfl, rfl, by go_num, HB7.out⟩, by simp [intOf] <;> omega⟩
      · have hge : ¬ (j : Int) < 4398046511104 := hmx
        have HF := hid HB.out.f
        have hlL : ¬ (len : Int) < 4398046511104 := by omega
        clear HB
        go_wp2_with fail
        go_ret2
        exact ⟨⟨_, rfl⟩, HF.out⟩
    · have hge : ¬ (j : Int) < (len : Int) := by omega
      have HF := hid HB.out.f
      clear HB
      by_cases hL : (len : Int) < 4398046511104
      · go_wp2_with fail
        go_ret2
        exact ⟨⟨_, rfl⟩, HF.out⟩
      · go_wp2_with fail
        go_ret2
        exact ⟨⟨_, rfl⟩, HF.out⟩

end Go.Proofs.Qxb6500452a
