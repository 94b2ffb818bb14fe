/- The walk of the gate's keeps. -/
import Derived.Test.Qxb6500452aJHolds
import Derived.Test.Qxb6500452aHDo
import Derived.Test.Qxb6500452aGSamp
import Derived.Test.Qxb6500452aGFacts
namespace Go.Proofs.Qxb6500452a
open Go Go.RowKit
set_option maxRecDepth 100000
set_option maxHeartbeats 40000000
set_option linter.unusedSimpArgs false
set_option linter.unusedVariables false

theorem showH_size (c : Cts) : (showH c).size ≤ 200 := by
  have z1 : (Ia.bs (Ia.itoa (c.ok : Int))).size ≤ 21 := by rw [Ia.bs_size]; exact Ia.itoa_len _
  have z2 : (Ia.bs (Ia.itoa (c.bad : Int))).size ≤ 21 := by rw [Ia.bs_size]; exact Ia.itoa_len _
  have z3 : (Ia.bs (Ia.itoa (c.err : Int))).size ≤ 21 := by rw [Ia.bs_size]; exact Ia.itoa_len _
  have z4 : (Ia.bs (Ia.itoa (c.inn : Int))).size ≤ 21 := by rw [Ia.bs_size]; exact Ia.itoa_len _
  have y1 : (⟨#[111, 107, 61]⟩ : ByteArray).size = 3 := rfl
  have y2 : (⟨#[32, 98, 97, 100, 61]⟩ : ByteArray).size = 5 := rfl
  have y3 : (⟨#[32, 101, 114, 114, 61]⟩ : ByteArray).size = 5 := rfl
  have y4 : (⟨#[32, 105, 110, 116, 61]⟩ : ByteArray).size = 5 := rfl
  have y5 : (⟨#[32, 124, 32]⟩ : ByteArray).size = 3 := rfl
  unfold showH
  rw [ba_size, ba_size, ba_size, ba_size, ba_size, ba_size, ba_size, ba_size]
  omega
theorem showD_size {s : Led} (h : s.lk.Ok) : (L.bs (showD s)).size ≤ 300 := by
  rw [Lbs_size]
  have h1 := balL_len s.bal 4
  have h2 := Ia.itoa_len (s.un : Int)
  have h3 := h.len
  simp [showD, L.showL]; omega

theorem str_add {x y : ByteArray} (h : x.size ≤ 1000) (h' : y.size ≤ 1000) (W : World) : (binOp BinOp.add 9 (.string x) (.string y)).run Try.prog W = .ok (.string (x ++ y)) W := by
  simp [go_sem, binOp]
  omega
/-- The real side stands at a state; the ghost's tally. -/
structure KB (w0 w : World) (b : LB) (G pB pT : Nat) (s : Led) (c : Cts) : Prop where
  r : GT w G b s c
  fr : Free s
  lo : ∀ i, SG b G i → w0.heap.size ≤ i ∧ i ≠ pB ∧ i ≠ pT
  p0 : At w pB 0 (.pointer (some ⟨b.D, 0, none⟩))
  p1 : At w pB 1 (.pointer (some ⟨b.T, 0, none⟩))
  tb : TB w pT c
  ne : pB ≠ pT
  pb : w0.heap.size ≤ pB
  pt : w0.heap.size ≤ pT
  f : Fr (fun _ => False) w0 w
theorem KB.quiet {w0 w w' : World} {b : LB} {G pB pT : Nat} {s : Led} {c : Cts} (h : KB w0 w b G pB pT s c) (hf : Fr (fun _ => False) w w') : KB w0 w' b G pB pT s c :=
  ⟨h.r.fr hf (fun _ _ h => h), h.fr, h.lo, h.p0.fr hf (fun h => h), h.p1.fr hf (fun h => h), h.tb.fr hf (fun h => h), h.ne, h.pb, h.pt, h.f.trans hf⟩
theorem KB.step {w0 w w' w2 : World} {b : LB} {G pB pT : Nat} {s s' : Led} {c c' : Cts} (h : KB w0 w b G pB pT s c) (hf : Fr (SG b G) w w') (r : GT w' G b s' c') (fr : Free s') (h2 : Fr (fun i => i = pT) w' w2) (tb : TB w2 pT c') : KB w0 w2 b G pB pT s' c' :=
  ⟨r.fr h2 (fun i c e => (h.lo i c).2.2 e), fr, h.lo, (h.p0.fr hf (fun c => (h.lo _ c).2.1 rfl)).fr h2 h.ne, (h.p1.fr hf (fun c => (h.lo _ c).2.1 rfl)).fr h2 h.ne, tb, h.ne, h.pb, h.pt, (h.f.then hf (fun i hi c => by have := (h.lo i c).1; omega)).then h2 (fun i hi e => by have := h.pt; omega)⟩

/-- What Holds is told of a step. -/
theorem do_ok {s : Led} (ok : s.lk.Ok) (h : Free s) (ht : sum4 s.bal = 400) (c : Cts) (o : Stp) : Free (doS s o) ∧ doE s o ≠ 10 ∧ ((doE s o = 1 ∨ doE s o = 8 ∨ (o.kind = 2 ∧ 0 < o.s.size ∧ byU o.s 0 = 78)) → L.bs (showD (doS s o)) = L.bs (showD s)) ∧ (doE s o = 8 → ∃ q : Nat, q ≤ o.s.size ∧ q ≤ 20 ∧ doT s c o = atA q) := by
  have k := srv_ok ok h ht o.s
  unfold doE doS doT
  by_cases h2 : o.kind = 2
  · simp only [if_pos h2]
    refine ⟨k.free, k.p, fun hh => ?_, k.bad⟩
    have : (srv s o.s).2.2 = s := by
      rcases hh with hh | hh | ⟨_, _, hh⟩
      · exact k.un (.inl hh)
      · exact k.un (.inr hh)
      · exact k.nm hh
    rw [this]
  · simp only [if_neg h2]
    exact ⟨h, by decide, fun _ => trivial, fun e => absurd e (by decide)⟩

theorem keeps_any {w : World} {a : Option Addr} {len cap : Nat} (f : Nat → Stp) (hs : ∀ i, i < len → ∃ b off, a = some ⟨b, off, none⟩ ∧ StpAt w b (off + i * 6) (f i)) (hlen : len ≤ 9223372036854775807) (quiet : Bool) :
    Calls Try.prog 20 #[.slice a len cap, .bool quiet] w fun e w' => e = .returned (.int .i64 (-1)) ∧ Fr (fun _ => False) w w' := by
  have hlen' : (len : Int) ≤ 9223372036854775807 := by omega
  have HS := hid hs
  clear hs
  go_enter Try.func20, Try.ntmps20
  go_wp2_with fail
  refine (samples_any w).mono ?_
  rintro e w1 ⟨rfl, f1⟩
  have F1 := hid f1
  clear f1
  go_wp2_with fail
  refine (gfacts_walk w1).mono ?_
  rintro e w2 ⟨rfl, f2⟩
  have F2 := hid (F1.out.trans f2)
  clear f2 F1
  go_wp2_with fail
  refine (gground_any _).mono ?_
  rintro e w3 ⟨lb, rfl, lr, hl, f3⟩
  have R3 := hid lr
  have N3 : Hid (∀ i, SL lb i → w.heap.size ≤ i) := fun i c => by have := hl i c; have := F2.out.size; omega
  have F3 := hid (F2.out.trans f3)
  clear lr hl f3 F2
  go_upto_region 6 with fail
  have FA := hid (F3.out.alloc (.cells #[.pointer (some ⟨lb.D, 0, none⟩), .pointer (some ⟨lb.T, 0, none⟩)] 30))
  have PA0 := hid (At.new w3 #[.pointer (some ⟨lb.D, 0, none⟩), .pointer (some ⟨lb.T, 0, none⟩)] 30 (o := 0) rfl)
  have PA1 := hid (At.new w3 #[.pointer (some ⟨lb.D, 0, none⟩), .pointer (some ⟨lb.T, 0, none⟩)] 30 (o := 1) rfl)
  have R4 := hid (R3.out.fr ((Fr.refl (fun _ => False) w3).alloc (.cells #[.pointer (some ⟨lb.D, 0, none⟩), .pointer (some ⟨lb.T, 0, none⟩)] 30)) (fun _ _ h => h))
  have HZ : Hid (w.heap.size ≤ w3.heap.size ∧ ∀ i, SL lb i → w.heap.size ≤ i ∧ i ≠ w3.heap.size) := ⟨F3.out.size, fun i c => ⟨N3.out i c, Nat.ne_of_lt (R3.out.lt i c)⟩⟩
  clear R3 F3 N3
  generalize w3.alloc (.cells #[.pointer (some ⟨lb.D, 0, none⟩), .pointer (some ⟨lb.T, 0, none⟩)] 30) = wa at *
  generalize w3.heap.size = pB at *
  have p0 := PA0.out.c
  go_wp2_with fail
  refine (gnew_any R4.out).mono ?_
  rintro e w5 ⟨G, hG, rfl, gt, f5⟩
  have G5 := hid gt
  have HG := hid hG
  have F5 := hid (FA.out.trans f5)
  have Q0 := hid (PA0.out.fr f5 (fun h => h))
  have Q1 := hid (PA1.out.fr f5 (fun h => h))
  have HPB := hid PA0.out.lt
  clear hG gt f5 p0 PA0 PA1 FA R4
  go_upto_region 8 with fail
  have HB : Hid (KB w (w5.alloc (.cells #[.int .i64 0, .int .i64 0, .int .i64 0, .int .i64 0] 63)) lb G pB w5.heap.size (led0 L.init) ⟨0, 0, 0, 0⟩) := by
    have fz := (Fr.refl (fun _ => False) w5).alloc (.cells #[.int .i64 0, .int .i64 0, .int .i64 0, .int .i64 0] 63)
    refine ⟨G5.out.fr fz (fun _ _ h => h), free_init, ?_, Q0.out.fr fz (fun h => h), Q1.out.fr fz (fun h => h), TB.new w5 ⟨0, 0, 0, 0⟩, Nat.ne_of_lt Q0.out.lt, HZ.out.1, F5.out.size, F5.out.trans fz⟩
    intro i c
    have hlt := G5.out.lt i c
    rcases c with c | c
    · exact ⟨(HZ.out.2 i c).1, (HZ.out.2 i c).2, by omega⟩
    · have := HG.out
      have := HPB.out
      have := HZ.out.1
      exact ⟨by omega, by omega, by omega⟩
  clear G5 HG F5 Q0 Q1 HPB HZ
  generalize w5.alloc (.cells #[.int .i64 0, .int .i64 0, .int .i64 0, .int .i64 0] 63) = w6 at *
  generalize w5.heap.size = pT at *
  go_wp2_with fail
  go_loopw [6, 8] (fun x i wr => ∃ (k : Nat) (s : Led) (c : Cts) (lb : LB) (G : Nat), k ≤ len ∧ x = .pointer (some ⟨G, 0, none⟩) ∧ i = .int .i64 k ∧ KB w wr lb G pB pT s c) (fun _ i _ => len - (intOf i).toNat)
  case atStart => exact ⟨0, led0 L.init, ⟨0, 0, 0, 0⟩, lb, G, by omega, rfl, rfl, HB.out⟩
  case round =>
    clear HB
    obtain ⟨j, s, c, lb, G, hkl, rfl, rfl, hB⟩ := hrel
    have HB := hid hB
    clear hB
    have hk0 : (0 : Int) ≤ (j : Int) := by omega
    by_cases hlt : j < len
    · have hltI : (j : Int) < (len : Int) := by omega
      by_cases hmx : (j : Int) < 4398046511104
      · obtain ⟨b, off, ha, hst⟩ := HS.out j hlt
        subst ha
        have hst := hst.fr HB.out.f
        clear HS
        obtain ⟨c0, c1, c2, c3, c4, c5⟩ := hst
        generalize f j = o at *
        go_upto_region 12 with fail
        have HW := hid (HB.out.quiet ((Fr.refl (fun _ => False) wr).alloc (.cells #[.int .i64 o.kind, .int .i64 o.a, .int .i64 o.b, .int .i64 o.c, .string o.s, .string o.t] 65)))
        have HPO := hid (StpAt.new wr o)
        have NO : Hid (¬ SG lb G wr.heap.size ∧ wr.heap.size ≠ pT ∧ wr.heap.size < (wr.alloc (.cells #[.int .i64 o.kind, .int .i64 o.a, .int .i64 o.b, .int .i64 o.c, .string o.s, .string o.t] 65)).heap.size) := ⟨fun c => by have := HB.out.r.lt _ c; omega, fun e => by have := HB.out.tb.t0.lt; omega, by simp⟩
        have NB : Hid (wr.heap.size ≠ pB) := fun e => by have := HB.out.p0.lt; omega
        clear c0 c1 c2 c3 c4 c5 HB
        generalize wr.alloc (.cells #[.int .i64 o.kind, .int .i64 o.a, .int .i64 o.b, .int .i64 o.c, .string o.s, .string o.t] 65) = W at *
        generalize wr.heap.size = pO at *
        obtain ⟨d0, d1, d2, d3, d4, d5⟩ := HPO.out
        simp only [Nat.zero_add] at d1 d2 d3 d4 d5
        by_cases h1 : o.kind = 1
        · have h1b : (o.kind == 1) = true := beq_iff_eq.2 h1
          have hk2 : ¬ o.kind = 2 := by omega
          have hk3 : ¬ o.kind = 3 := by omega
          clear h1
          go_wp2_with fail
          refine (gground_any _).mono ?_
          rintro e w1 ⟨lb, rfl, lr, hl, f1⟩
          have P0 := hid (HW.out.p0.fr f1 (fun h => h))
          have P1 := hid (HW.out.p1.fr f1 (fun h => h))
          have hpl := HW.out.p0.lt
          have hpt := HW.out.tb.t0.lt
          have np : ∀ i, SL lb i → i ≠ pB ∧ i ≠ pT ∧ i ≠ pO ∧ w.heap.size ≤ i := fun i c => by have := hl i c; have := NO.out.2.2; have := HW.out.f.size; omega
          have HZ := hid np
          have fs : Fr (fun i => i = pB) w1 ((w1.setCell ⟨pB, 0, none⟩ (.pointer (some ⟨lb.D, 0, none⟩))).setCell ⟨pB, 1, none⟩ (.pointer (some ⟨lb.T, 0, none⟩))) := ((Fr.refl (fun i => i = pB) w1).setCell (p := ⟨pB, 0, none⟩) (fun _ => rfl) _).setCell (p := ⟨pB, 1, none⟩) (fun _ => rfl) _
          have R2 := hid (lr.fr fs (fun i c e => (np i c).1 e))
          have PA0 := hid ((P0.out.same (.pointer (some ⟨lb.D, 0, none⟩))).other (b' := pB) (o' := 1) (by omega) (.pointer (some ⟨lb.T, 0, none⟩)))
          have PA1 := hid ((P1.out.other (b' := pB) (o' := 0) (by omega) (.pointer (some ⟨lb.D, 0, none⟩))).same (.pointer (some ⟨lb.T, 0, none⟩)))
          have FA : Hid (Fr (fun _ => False) w ((w1.setCell ⟨pB, 0, none⟩ (.pointer (some ⟨lb.D, 0, none⟩))).setCell ⟨pB, 1, none⟩ (.pointer (some ⟨lb.T, 0, none⟩)))) := (HW.out.f.trans f1).then fs (fun i hi e => by have := HW.out.pb; omega)
          have TA := hid ((HW.out.tb.fr f1 (fun h => h)).fr fs (Ne.symm HW.out.ne))
          have OA := hid ((HPO.out.fr f1).frS fs NB.out)
          have hsz : Hid (pB < W.heap.size ∧ pT < W.heap.size ∧ pO < W.heap.size ∧ W.heap.size ≤ ((w1.setCell ⟨pB, 0, none⟩ (.pointer (some ⟨lb.D, 0, none⟩))).setCell ⟨pB, 1, none⟩ (.pointer (some ⟨lb.T, 0, none⟩))).heap.size) := ⟨hpl, hpt, NO.out.2.2, Nat.le_trans f1.size fs.size⟩
          have PN : Hid (w.heap.size ≤ pB ∧ w.heap.size ≤ pT ∧ pB ≠ pT ∧ w.heap.size ≤ W.heap.size) := ⟨HW.out.pb, HW.out.pt, HW.out.ne, HW.out.f.size⟩
          have NT := hid NO.out.2.1
          have q0 := P0.out.c
          have q1 := P1.out.c
          have x0 := P0.out.f
          have x1 := P1.out.f
          clear lr hl f1 np fs HW P0 P1 hpl hpt d0 d1 d2 d3 d4 d5 HPO NO
          go_upto_region 14 with fail
          clear q0 q1 x0 x1
          generalize (w1.setCell ⟨pB, 0, none⟩ (.pointer (some ⟨lb.D, 0, none⟩))).setCell ⟨pB, 1, none⟩ (.pointer (some ⟨lb.T, 0, none⟩)) = wa at *
          have p0 := PA0.out.c
          go_wp2_with fail
          refine (gnew_any R2.out).mono ?_
          rintro e w2 ⟨G, hG, rfl, gt, f2⟩
          have GT2 := hid gt
          have HG := hid hG
          have F2 := hid (FA.out.trans f2)
          have T2 := hid (TA.out.fr f2 (fun h => h))
          have O2 := hid (OA.out.fr f2)
          have Q0 := hid (PA0.out.fr f2 (fun h => h))
          have Q1 := hid (PA1.out.fr f2 (fun h => h))
          have t0 := T2.out.t0.c
          have t1 := T2.out.t1.c
          have t2 := T2.out.t2.c
          have t3 := T2.out.t3.c
          have x0 := T2.out.t0.f
          have x1 := T2.out.t1.f
          have x2 := T2.out.t2.f
          have x3 := T2.out.t3.f
          have HZ2 := hid f2.size
          clear hG gt f2 p0
          go_upto_region 16 with fail
          have FT := hid (box_fr w2 pT (.int .i64 0) (.int .i64 0) (.int .i64 0) (.int .i64 0))
          have LO : Hid (∀ i, SG lb G i → w.heap.size ≤ i ∧ i ≠ pB ∧ i ≠ pT ∧ i ≠ pO) := by
            rintro i (c | c)
            · have := HZ.out i c; exact ⟨this.2.2.2, this.1, this.2.1, this.2.2.1⟩
            · have := HG.out; have := hsz.out; have := PN.out; omega
          have HB : Hid (KB w ((((w2.setCell ⟨pT, 0, none⟩ (.int .i64 0)).setCell ⟨pT, 1, none⟩ (.int .i64 0)).setCell ⟨pT, 2, none⟩ (.int .i64 0)).setCell ⟨pT, 3, none⟩ (.int .i64 0)) lb G pB pT (led0 L.init) ⟨0, 0, 0, 0⟩) := by
            refine ⟨GT2.out.fr FT.out (fun i c e => (LO.out i c).2.2.1 e), free_init, fun i c => ⟨(LO.out i c).1, (LO.out i c).2.1, (LO.out i c).2.2.1⟩, Q0.out.fr FT.out PN.out.2.2.1, Q1.out.fr FT.out PN.out.2.2.1, T2.out.set ⟨0, 0, 0, 0⟩, PN.out.2.2.1, PN.out.1, PN.out.2.1, F2.out.then FT.out (fun i hi e => by have := PN.out; omega)⟩
          have HPO := hid (O2.out.frS FT.out NT.out)
          have NO : Hid (¬ SG lb G pO ∧ pO ≠ pT ∧ pO < ((((w2.setCell ⟨pT, 0, none⟩ (.int .i64 0)).setCell ⟨pT, 1, none⟩ (.int .i64 0)).setCell ⟨pT, 2, none⟩ (.int .i64 0)).setCell ⟨pT, 3, none⟩ (.int .i64 0)).heap.size) := ⟨fun c => (LO.out _ c).2.2.2 rfl, NT.out, by have := hsz.out; have := HZ2.out; have := FT.out.size; omega⟩
          clear t0 t1 t2 t3 x0 x1 x2 x3 FT LO GT2 HG F2 T2 O2 Q0 Q1 HZ2 FA TA OA hsz PN NT PA0 PA1 R2 HZ NB
          generalize (((w2.setCell ⟨pT, 0, none⟩ (.int .i64 0)).setCell ⟨pT, 1, none⟩ (.int .i64 0)).setCell ⟨pT, 2, none⟩ (.int .i64 0)).setCell ⟨pT, 3, none⟩ (.int .i64 0) = W0 at *
          obtain ⟨s, hs⟩ : ∃ s, s = led0 L.init := ⟨_, rfl⟩
          obtain ⟨c, hc⟩ : ∃ c : Cts, c = ⟨0, 0, 0, 0⟩ := ⟨_, rfl⟩
          rw [← hs, ← hc] at HB
          clear hs hc
          have p0 := HB.out.p0.c
          have p1 := HB.out.p1.c
          have HU := under_any HB.out.r.r
          unfold belV at HU
          replace HU := hid HU
          go_wp2_with fail
          refine HU.out.mono ?_
          rintro x w5 ⟨rfl, f5⟩
          have HB5 := hid (HB.out.quiet f5)
          have HP5 := hid (HPO.out.fr f5)
          have NO5 : Hid (¬ SG lb G pO ∧ pO ≠ pT ∧ pO < w5.heap.size) := ⟨NO.out.1, NO.out.2.1, Nat.lt_of_lt_of_le NO.out.2.2 f5.size⟩
          clear f5 p0 p1 HB HPO NO HU
          obtain ⟨d0, d1, d2, d3, d4, d5⟩ := HP5.out
          simp only [Nat.zero_add] at d1 d2 d3 d4 d5
          have HA := gdo_any HB5.out.r o
          simp only [Stp.val, ansV] at HA
          replace HA := hid HA
          have DO := hid (do_ok HB5.out.r.r.rt.ok HB5.out.fr HB5.out.r.r.tot c o)
          have ZD := hid (showD_size HB5.out.r.r.rt.ok)
          go_wp2_with fail
          refine HA.out.mono ?_
          rintro x w6 ⟨rfl, r6, f6⟩
          have R6 := hid r6
          have F6 := hid f6
          have HP6 := hid (HP5.out.frS f6 NO5.out.1)
          have T6 := hid (HB5.out.tb.fr f6 (fun c => (HB5.out.lo _ c).2.2 rfl))
          have Q0 := hid (HB5.out.p0.fr f6 (fun c => (HB5.out.lo _ c).2.1 rfl))
          have Q1 := hid (HB5.out.p1.fr f6 (fun c => (HB5.out.lo _ c).2.1 rfl))
          have hz6 : pO < w6.heap.size := Nat.lt_of_lt_of_le NO5.out.2.2 f6.size
          clear r6 f6 HA d0 d1 d2 d3 d4 d5 HP5
          go_upto_region 18 with fail
          have FA := hid ((Fr.refl (fun _ => False) w6).alloc (.cells #[.int .i64 (doE s o), .int .i64 0, .int .i64 0, .string (doT s c o)] 68))
          have AN : Hid (∀ q v, (#[.int .i64 (doE s o), .int .i64 0, .int .i64 0, .string (doT s c o)] : Array Value)[q]? = some v → At (w6.alloc (.cells #[.int .i64 (doE s o), .int .i64 0, .int .i64 0, .string (doT s c o)] 68)) w6.heap.size q v) := fun q v hv => At.new w6 _ _ hv
          have R7 := hid (R6.out.fr FA.out (fun _ _ h => h))
          have F7 := hid (F6.out.trans (FA.out.mono (fun _ _ h => h.elim)))
          have HP7 := hid (HP6.out.fr FA.out)
          have T7 := hid (T6.out.fr FA.out (fun h => h))
          have U0 := hid (Q0.out.fr FA.out (fun h => h))
          have U1 := hid (Q1.out.fr FA.out (fun h => h))
          have hAT : w6.heap.size ≠ pT := fun e => by have := T6.out.t0.lt; omega
          have hAG : Hid (¬ SG lb G w6.heap.size) := fun c => by have := R6.out.lt _ c; omega
          clear FA R6 F6 HP6 T6 Q0 Q1
          generalize w6.alloc (.cells #[.int .i64 (doE s o), .int .i64 0, .int .i64 0, .string (doT s c o)] 68) = w7 at *
          generalize w6.heap.size = pA at *
          obtain ⟨d0, d1, d2, d3, d4, d5⟩ := HP7.out
          simp only [Nat.zero_add] at d1 d2 d3 d4 d5
          have h2b : (o.kind == 2) = false := beq_eq_false_iff_ne.2 hk2
          have h3b : (o.kind == 3) = false := beq_eq_false_iff_ne.2 hk3
          have HCC : Hid (doC s c o = c) := by unfold Hid doC; rw [if_neg hk2]
          go_upto_region 20 with fail
          have HK : Hid (KB w w7 lb G pB pT (doS s o) (doC s c o)) := HB5.out.step F7.out R7.out DO.out.1 (Fr.refl _ _) (by rw [HCC.out]; exact T7.out)
          have HP8 := HP7
          have AN8 := AN
          clear HB5 F7 R7 T7 HP7 AN U0 U1 d0 d1 d2 d3 d4 d5
          clear hk2 hk3
          obtain ⟨d0, d1, d2, d3, d4, d5⟩ := HP8.out
          simp only [Nat.zero_add] at d1 d2 d3 d4 d5
          have p0 := HK.out.p0.c
          have p1 := HK.out.p1.c
          have a0 := (AN8.out 0 _ rfl).c
          have a1 := (AN8.out 1 _ rfl).c
          have a2 := (AN8.out 2 _ rfl).c
          have a3 := (AN8.out 3 _ rfl).c
          have HH := holds_any HK.out.r.r DO.out.1 o DO.out.2.1 DO.out.2.2.1 DO.out.2.2.2
          simp only [belV, Stp.val, ansV] at HH
          replace HH := hid HH
          go_wp2_with fail
          refine HH.out.mono ?_
          rintro x w9 ⟨rfl, f9⟩
          have HK9 := hid (HK.out.quiet f9)
          have HP9 := hid (HP8.out.fr f9)
          have AN9 := hid (fun q v hv => (AN8.out q v hv).fr f9 (fun h => h))
          clear f9 p0 p1 a0 a1 a2 a3 d0 d1 d2 d3 d4 d5 HK HP8 AN8 HH
          obtain ⟨d0, d1, d2, d3, d4, d5⟩ := HP9.out
          clear d1 d2 d3 d4 d5
          have zD := showD_size HK9.out.r.r.rt.ok
          have zH := showH_size (doC s c o)
          go_upto_region 26 with fail
          cases quiet
          · go_wp2_with fail
            refine (gshow_any HK9.out.r).mono ?_
            rintro x w10 ⟨rfl, f10⟩
            have HK10 := hid (HK9.out.quiet f10)
            clear f10 HK9
            have t0 := HK10.out.tb.t0.c
            have t1 := HK10.out.tb.t1.c
            have t2 := HK10.out.tb.t2.c
            have t3 := HK10.out.tb.t3.c
            have HD := head_any HK10.out.r.cl w10
            unfold talV at HD
            replace HD := hid HD
            go_wp2_with fail
            refine HD.out.mono ?_
            rintro x w11 ⟨rfl, f11⟩
            have HK11 := hid (HK10.out.quiet f11)
            clear f11 HK10 t0 t1 t2 t3 HD
            have p0 := HK11.out.p0.c
            have p1 := HK11.out.p1.c
            have HU := under_any HK11.out.r.r
            unfold belV at HU
            replace HU := hid HU
            go_wp2_with fail
            refine HU.out.mono ?_
            rintro x w12 ⟨rfl, f12⟩
            have HK12 := hid (HK11.out.quiet f12)
            clear f12 HK11 p0 p1 HU
            unfold showG
            generalize showH (doC s c o) = hh at *
            generalize L.bs (showD (doS s o)) = dd at *
            go_wp2_with fail
            exact ⟨⟨j + 1, doS s o, doC s c o, lb, G, by omega, rfl, by go_num, HK12.out⟩, by simp [intOf] <;> omega⟩
          · go_wp2_with fail
            exact ⟨⟨j + 1, doS s o, doC s c o, lb, G, by omega, rfl, by go_num, HK9.out⟩, by simp [intOf] <;> omega⟩
        · have h1b : (o.kind == 1) = false := beq_eq_false_iff_ne.2 h1
          clear h1
          go_upto_region 16 with fail
          have HB := HW
          clear HW d0 d1 d2 d3 d4 d5 NB
          have p0 := HB.out.p0.c
          have p1 := HB.out.p1.c
          have HU := under_any HB.out.r.r
          unfold belV at HU
          replace HU := hid HU
          go_wp2_with fail
          refine HU.out.mono ?_
          rintro x w5 ⟨rfl, f5⟩
          have HB5 := hid (HB.out.quiet f5)
          have HP5 := hid (HPO.out.fr f5)
          have NO5 : Hid (¬ SG lb G pO ∧ pO ≠ pT ∧ pO < w5.heap.size) := ⟨NO.out.1, NO.out.2.1, Nat.lt_of_lt_of_le NO.out.2.2 f5.size⟩
          clear f5 p0 p1 HB HPO NO HU
          obtain ⟨d0, d1, d2, d3, d4, d5⟩ := HP5.out
          simp only [Nat.zero_add] at d1 d2 d3 d4 d5
          have HA := gdo_any HB5.out.r o
          simp only [Stp.val, ansV] at HA
          replace HA := hid HA
          have DO := hid (do_ok HB5.out.r.r.rt.ok HB5.out.fr HB5.out.r.r.tot c o)
          have ZD := hid (showD_size HB5.out.r.r.rt.ok)
          go_wp2_with fail
          refine HA.out.mono ?_
          rintro x w6 ⟨rfl, r6, f6⟩
          have R6 := hid r6
          have F6 := hid f6
          have HP6 := hid (HP5.out.frS f6 NO5.out.1)
          have T6 := hid (HB5.out.tb.fr f6 (fun c => (HB5.out.lo _ c).2.2 rfl))
          have Q0 := hid (HB5.out.p0.fr f6 (fun c => (HB5.out.lo _ c).2.1 rfl))
          have Q1 := hid (HB5.out.p1.fr f6 (fun c => (HB5.out.lo _ c).2.1 rfl))
          have hz6 : pO < w6.heap.size := Nat.lt_of_lt_of_le NO5.out.2.2 f6.size
          clear r6 f6 HA d0 d1 d2 d3 d4 d5 HP5
          go_upto_region 18 with fail
          have FA := hid ((Fr.refl (fun _ => False) w6).alloc (.cells #[.int .i64 (doE s o), .int .i64 0, .int .i64 0, .string (doT s c o)] 68))
          have AN : Hid (∀ q v, (#[.int .i64 (doE s o), .int .i64 0, .int .i64 0, .string (doT s c o)] : Array Value)[q]? = some v → At (w6.alloc (.cells #[.int .i64 (doE s o), .int .i64 0, .int .i64 0, .string (doT s c o)] 68)) w6.heap.size q v) := fun q v hv => At.new w6 _ _ hv
          have R7 := hid (R6.out.fr FA.out (fun _ _ h => h))
          have F7 := hid (F6.out.trans (FA.out.mono (fun _ _ h => h.elim)))
          have HP7 := hid (HP6.out.fr FA.out)
          have T7 := hid (T6.out.fr FA.out (fun h => h))
          have U0 := hid (Q0.out.fr FA.out (fun h => h))
          have U1 := hid (Q1.out.fr FA.out (fun h => h))
          have hAT : w6.heap.size ≠ pT := fun e => by have := T6.out.t0.lt; omega
          have hAG : Hid (¬ SG lb G w6.heap.size) := fun c => by have := R6.out.lt _ c; omega
          clear FA R6 F6 HP6 T6 Q0 Q1
          generalize w6.alloc (.cells #[.int .i64 (doE s o), .int .i64 0, .int .i64 0, .string (doT s c o)] 68) = w7 at *
          generalize w6.heap.size = pA at *
          obtain ⟨d0, d1, d2, d3, d4, d5⟩ := HP7.out
          simp only [Nat.zero_add] at d1 d2 d3 d4 d5
          by_cases hk2 : o.kind = 2
          · have h2b : (o.kind == 2) = true := beq_iff_eq.2 hk2
            have h3b : (o.kind == 3) = false := beq_eq_false_iff_ne.2 (by omega)
            have HCC : Hid (doC s c o = cntC c (doE s o)) := by unfold Hid doC doE; rw [if_pos hk2, if_pos hk2]
            clear hk2
            have t0 := T7.out.t0.c
            have t1 := T7.out.t1.c
            have t2 := T7.out.t2.c
            have t3 := T7.out.t3.c
            have a0 := (AN.out 0 _ rfl).c
            have HD := tcount_any HB5.out.r.cl (doE s o) w7
            rw [← HCC.out] at HD
            unfold talV at HD
            replace HD := hid HD
            go_wp2_with fail
            refine HD.out.mono ?_
            rintro x w8 ⟨rfl, f8⟩
            have T8 := hid (T7.out.fr f8 (fun h => h))
            have R8 := hid (R7.out.fr f8 (fun _ _ h => h))
            have F8 := hid (F7.out.trans (f8.mono (fun _ _ h => h.elim)))
            have HPX := hid (HP7.out.fr f8)
            have ANX := hid (fun q v hv => (AN.out q v hv).fr f8 (fun h => h))
            clear f8 t0 t1 t2 t3 a0 HD d0 d1 d2 d3 d4 d5 T7 R7 F7 HP7 AN U0 U1
            have t0 := T8.out.t0.c
            have t1 := T8.out.t1.c
            have t2 := T8.out.t2.c
            have t3 := T8.out.t3.c
            have x0 := T8.out.t0.f
            have x1 := T8.out.t1.f
            have x2 := T8.out.t2.f
            have x3 := T8.out.t3.f
            go_upto_region 20 with fail
            have FB := hid (box_fr w8 pT (.int .i64 ((doC s c o).ok : Int)) (.int .i64 ((doC s c o).bad : Int)) (.int .i64 ((doC s c o).err : Int)) (.int .i64 ((doC s c o).inn : Int)))
            have HK : Hid (KB w ((((w8.setCell ⟨pT, 0, none⟩ (.int .i64 ((doC s c o).ok : Int))).setCell ⟨pT, 1, none⟩ (.int .i64 ((doC s c o).bad : Int))).setCell ⟨pT, 2, none⟩ (.int .i64 ((doC s c o).err : Int))).setCell ⟨pT, 3, none⟩ (.int .i64 ((doC s c o).inn : Int))) lb G pB pT (doS s o) (doC s c o)) := HB5.out.step F8.out R8.out DO.out.1 FB.out (T8.out.set _)
            have HP8 := hid (HPX.out.frS FB.out NO5.out.2.1)
            have AN8 := hid (fun q v hv => (ANX.out q v hv).fr FB.out hAT)
            clear t0 t1 t2 t3 x0 x1 x2 x3 T8 R8 F8 HPX ANX FB HB5
            generalize (((w8.setCell ⟨pT, 0, none⟩ (.int .i64 ((doC s c o).ok : Int))).setCell ⟨pT, 1, none⟩ (.int .i64 ((doC s c o).bad : Int))).setCell ⟨pT, 2, none⟩ (.int .i64 ((doC s c o).err : Int))).setCell ⟨pT, 3, none⟩ (.int .i64 ((doC s c o).inn : Int)) = W8 at *
            obtain ⟨d0, d1, d2, d3, d4, d5⟩ := HP8.out
            simp only [Nat.zero_add] at d1 d2 d3 d4 d5
            have p0 := HK.out.p0.c
            have p1 := HK.out.p1.c
            have a0 := (AN8.out 0 _ rfl).c
            have a1 := (AN8.out 1 _ rfl).c
            have a2 := (AN8.out 2 _ rfl).c
            have a3 := (AN8.out 3 _ rfl).c
            have HH := holds_any HK.out.r.r DO.out.1 o DO.out.2.1 DO.out.2.2.1 DO.out.2.2.2
            simp only [belV, Stp.val, ansV] at HH
            replace HH := hid HH
            go_wp2_with fail
            refine HH.out.mono ?_
            rintro x w9 ⟨rfl, f9⟩
            have HK9 := hid (HK.out.quiet f9)
            have HP9 := hid (HP8.out.fr f9)
            have AN9 := hid (fun q v hv => (AN8.out q v hv).fr f9 (fun h => h))
            clear f9 p0 p1 a0 a1 a2 a3 d0 d1 d2 d3 d4 d5 HK HP8 AN8 HH
            obtain ⟨d0, d1, d2, d3, d4, d5⟩ := HP9.out
            clear d1 d2 d3 d4 d5
            have zD := showD_size HK9.out.r.r.rt.ok
            have zH := showH_size (doC s c o)
            go_upto_region 26 with fail
            cases quiet
            · go_wp2_with fail
              refine (gshow_any HK9.out.r).mono ?_
              rintro x w10 ⟨rfl, f10⟩
              have HK10 := hid (HK9.out.quiet f10)
              clear f10 HK9
              have t0 := HK10.out.tb.t0.c
              have t1 := HK10.out.tb.t1.c
              have t2 := HK10.out.tb.t2.c
              have t3 := HK10.out.tb.t3.c
              have HD := head_any HK10.out.r.cl w10
              unfold talV at HD
              replace HD := hid HD
              go_wp2_with fail
              refine HD.out.mono ?_
              rintro x w11 ⟨rfl, f11⟩
              have HK11 := hid (HK10.out.quiet f11)
              clear f11 HK10 t0 t1 t2 t3 HD
              have p0 := HK11.out.p0.c
              have p1 := HK11.out.p1.c
              have HU := under_any HK11.out.r.r
              unfold belV at HU
              replace HU := hid HU
              go_wp2_with fail
              refine HU.out.mono ?_
              rintro x w12 ⟨rfl, f12⟩
              have HK12 := hid (HK11.out.quiet f12)
              clear f12 HK11 p0 p1 HU
              unfold showG
              generalize showH (doC s c o) = hh at *
              generalize L.bs (showD (doS s o)) = dd at *
              go_wp2_with fail
              exact ⟨⟨j + 1, doS s o, doC s c o, lb, G, by omega, rfl, by go_num, HK12.out⟩, by simp [intOf] <;> omega⟩
            · go_wp2_with fail
              exact ⟨⟨j + 1, doS s o, doC s c o, lb, G, by omega, rfl, by go_num, HK9.out⟩, by simp [intOf] <;> omega⟩
          by_cases hk3 : o.kind = 3
          · have HK3 := hid hk3
            have h2b : (o.kind == 2) = false := beq_eq_false_iff_ne.2 (by omega)
            have h3b : (o.kind == 3) = true := beq_iff_eq.2 hk3
            have HCC : Hid (doC s c o = c) := by unfold Hid doC; rw [if_neg (by omega)]
            clear hk2 hk3
            go_upto_region 20 with fail
            have HK : Hid (KB w w7 lb G pB pT (doS s o) (doC s c o)) := HB5.out.step F7.out R7.out DO.out.1 (Fr.refl _ _) (by rw [HCC.out]; exact T7.out)
            have HP8 := HP7
            have AN8 := AN
            clear HB5 F7 R7 T7 HP7 AN U0 U1 d0 d1 d2 d3 d4 d5
            obtain ⟨d0, d1, d2, d3, d4, d5⟩ := HP8.out
            simp only [Nat.zero_add] at d1 d2 d3 d4 d5
            have p0 := HK.out.p0.c
            have p1 := HK.out.p1.c
            have a0 := (AN8.out 0 _ rfl).c
            have a1 := (AN8.out 1 _ rfl).c
            have a2 := (AN8.out 2 _ rfl).c
            have a3 := (AN8.out 3 _ rfl).c
            have HH := holds_any HK.out.r.r DO.out.1 o DO.out.2.1 DO.out.2.2.1 DO.out.2.2.2
            simp only [belV, Stp.val, ansV] at HH
            replace HH := hid HH
            go_wp2_with fail
            refine HH.out.mono ?_
            rintro x w9 ⟨rfl, f9⟩
            have HK9 := hid (HK.out.quiet f9)
            have HP9 := hid (HP8.out.fr f9)
            have AN9 := hid (fun q v hv => (AN8.out q v hv).fr f9 (fun h => h))
            clear f9 p0 p1 a0 a1 a2 a3 d0 d1 d2 d3 d4 d5 HK HP8 AN8 HH
            obtain ⟨d0, d1, d2, d3, d4, d5⟩ := HP9.out
            clear d1 d2 d3 d4 d5
            have zD := showD_size HK9.out.r.r.rt.ok
            have zH := showH_size (doC s c o)
            have t0 := HK9.out.tb.t0.c
            have t1 := HK9.out.tb.t1.c
            have t2 := HK9.out.tb.t2.c
            have t3 := HK9.out.tb.t3.c
            have HD := head_any HK9.out.r.cl w9
            unfold talV at HD
            replace HD := hid HD
            go_wp2_with fail
            refine HD.out.mono ?_
            rintro x w13 ⟨rfl, f13⟩
            have HK13 := hid (HK9.out.quiet f13)
            have AN13 := hid (fun q v hv => (AN9.out q v hv).fr f13 (fun h => h))
            clear f13 t0 t1 t2 t3 HD HK9 AN9 d0
            have p0 := HK13.out.p0.c
            have p1 := HK13.out.p1.c
            have a3 : w13.cell? ⟨pA, 3, none⟩ = some (.string (doT s c o)) := (AN13.out 3 _ rfl).c
            have HT : doT s c o = showG s c := by simp [doT, HK3.out]
            have HS : doS s o = s := by simp [doS, HK3.out]
            have HC : doC s c o = c := by simp [doC, HK3.out]
            rw [HT] at a3
            rw [HS, HC] at HK13
            rw [HC] at zH
            rw [HS] at zD
            clear HT
            have HU := under_any (HK13.out.r.r.fr ((Fr.refl (fun _ => False) w13).drew) (fun _ _ h => h))
            unfold belV at HU
            replace HU := hid HU
            unfold showG at a3
            rw [HC]
            clear HC HS
            generalize hhh : showH c = hh at *
            generalize hdd : L.bs (showD s) = dd at *
            have HHH := hid hhh
            have HDD := hid hdd
            clear hhh hdd
            have hadd := str_add (x := hh) (y := dd) (by omega) (by omega)
            go_upto_region 24 with fail
            go_cut [76] (fun v wx => v = .bool false ∧ Fr (fun _ => False) w13 wx)
            case first =>
              clear hlen hlen' hmx hkl hltI hk0 hadd hlt
              go_region_with (go_at_call 35; refine HU.out.mono ?_; rintro x w14 ⟨rfl, f14⟩; have z2 : w14.cell? ⟨pA, 3, none⟩ = some (.string (hh ++ dd)) := cellFr f14 (fun h => h) (by simp [*]); have F14 := hid ((Fr.refl (fun _ => False) w13).drew.trans f14); clear f14)
              all_goals go_wp2_with fail
              all_goals go_meet
              all_goals exact ⟨rfl, F14.out⟩
            case rest =>
              obtain ⟨rfl, f14⟩ := hcut
              have HK9 := hid (HK13.out.quiet f14)
              clear f14 HK13 AN13 p0 p1 a3 HU
              have hhh := HHH.out
              have hdd := HDD.out
              clear hadd
              subst hhh hdd
              go_upto_region 26 with fail
              cases quiet
              · go_wp2_with fail
                refine (gshow_any HK9.out.r).mono ?_
                rintro x w10 ⟨rfl, f10⟩
                have HK10 := hid (HK9.out.quiet f10)
                clear f10 HK9
                have t0 := HK10.out.tb.t0.c
                have t1 := HK10.out.tb.t1.c
                have t2 := HK10.out.tb.t2.c
                have t3 := HK10.out.tb.t3.c
                have HD := head_any HK10.out.r.cl w10
                unfold talV at HD
                replace HD := hid HD
                go_wp2_with fail
                refine HD.out.mono ?_
                rintro x w11 ⟨rfl, f11⟩
                have HK11 := hid (HK10.out.quiet f11)
                clear f11 HK10 t0 t1 t2 t3 HD
                have p0 := HK11.out.p0.c
                have p1 := HK11.out.p1.c
                have HU := under_any HK11.out.r.r
                unfold belV at HU
                replace HU := hid HU
                go_wp2_with fail
                refine HU.out.mono ?_
                rintro x w12 ⟨rfl, f12⟩
                have HK12 := hid (HK11.out.quiet f12)
                clear f12 HK11 p0 p1 HU
                unfold showG
                generalize showH (c) = hh at *
                generalize L.bs (showD (s)) = dd at *
                go_wp2_with fail
                exact ⟨⟨j + 1, s, c, lb, G, by omega, rfl, by go_num, HK12.out⟩, by simp [intOf] <;> omega⟩
              · go_wp2_with fail
                exact ⟨⟨j + 1, s, c, lb, G, by omega, rfl, by go_num, HK9.out⟩, by simp [intOf] <;> omega⟩
          have h2b : (o.kind == 2) = false := beq_eq_false_iff_ne.2 hk2
          have h3b : (o.kind == 3) = false := beq_eq_false_iff_ne.2 hk3
          have HCC : Hid (doC s c o = c) := by unfold Hid doC; rw [if_neg hk2]
          go_upto_region 20 with fail
          have HK : Hid (KB w w7 lb G pB pT (doS s o) (doC s c o)) := HB5.out.step F7.out R7.out DO.out.1 (Fr.refl _ _) (by rw [HCC.out]; exact T7.out)
          have HP8 := HP7
          have AN8 := AN
          clear HB5 F7 R7 T7 HP7 AN U0 U1 d0 d1 d2 d3 d4 d5
          clear hk2 hk3
          obtain ⟨d0, d1, d2, d3, d4, d5⟩ := HP8.out
          simp only [Nat.zero_add] at d1 d2 d3 d4 d5
          have p0 := HK.out.p0.c
          have p1 := HK.out.p1.c
          have a0 := (AN8.out 0 _ rfl).c
          have a1 := (AN8.out 1 _ rfl).c
          have a2 := (AN8.out 2 _ rfl).c
          have a3 := (AN8.out 3 _ rfl).c
          have HH := holds_any HK.out.r.r DO.out.1 o DO.out.2.1 DO.out.2.2.1 DO.out.2.2.2
          simp only [belV, Stp.val, ansV] at HH
          replace HH := hid HH
          go_wp2_with fail
          refine HH.out.mono ?_
          rintro x w9 ⟨rfl, f9⟩
          have HK9 := hid (HK.out.quiet f9)
          have HP9 := hid (HP8.out.fr f9)
          have AN9 := hid (fun q v hv => (AN8.out q v hv).fr f9 (fun h => h))
          clear f9 p0 p1 a0 a1 a2 a3 d0 d1 d2 d3 d4 d5 HK HP8 AN8 HH
          obtain ⟨d0, d1, d2, d3, d4, d5⟩ := HP9.out
          clear d1 d2 d3 d4 d5
          have zD := showD_size HK9.out.r.r.rt.ok
          have zH := showH_size (doC s c o)
          go_upto_region 26 with fail
          cases quiet
          · go_wp2_with fail
            refine (gshow_any HK9.out.r).mono ?_
            rintro x w10 ⟨rfl, f10⟩
            have HK10 := hid (HK9.out.quiet f10)
            clear f10 HK9
            have t0 := HK10.out.tb.t0.c
            have t1 := HK10.out.tb.t1.c
            have t2 := HK10.out.tb.t2.c
            have t3 := HK10.out.tb.t3.c
            have HD := head_any HK10.out.r.cl w10
            unfold talV at HD
            replace HD := hid HD
            go_wp2_with fail
            refine HD.out.mono ?_
            rintro x w11 ⟨rfl, f11⟩
            have HK11 := hid (HK10.out.quiet f11)
            clear f11 HK10 t0 t1 t2 t3 HD
            have p0 := HK11.out.p0.c
            have p1 := HK11.out.p1.c
            have HU := under_any HK11.out.r.r
            unfold belV at HU
            replace HU := hid HU
            go_wp2_with fail
            refine HU.out.mono ?_
            rintro x w12 ⟨rfl, f12⟩
            have HK12 := hid (HK11.out.quiet f12)
            clear f12 HK11 p0 p1 HU
            unfold showG
            generalize showH (doC s c o) = hh at *
            generalize L.bs (showD (doS s o)) = dd at *
            go_wp2_with fail
            exact ⟨⟨j + 1, doS s o, doC s c o, lb, G, by omega, rfl, by go_num, HK12.out⟩, by simp [intOf] <;> omega⟩
          · go_wp2_with fail
            exact ⟨⟨j + 1, doS s o, doC s c o, lb, G, by omega, rfl, by go_num, HK9.out⟩, by simp [intOf] <;> omega⟩
      · have hge : ¬ (j : Int) < 4398046511104 := hmx
        have HF := hid HB.out.f
        clear HB
        go_wp2_with fail
        go_ret
        exact ⟨rfl, HF.out⟩
    · have hge : ¬ (j : Int) < (len : Int) := by omega
      have HF := hid HB.out.f
      clear HB
      go_wp2_with fail
      go_ret
      exact ⟨rfl, HF.out⟩

end Go.Proofs.Qxb6500452a
