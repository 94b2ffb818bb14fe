/- The walk: both sides. -/
import Derived.Test.Qxb6500453aYGrab
import Derived.Test.Qxb6500453aYDoM
namespace Go.Proofs.Qxb6500453a
open Go Go.RowKit
set_option maxRecDepth 100000
set_option maxHeartbeats 1600000
set_option linter.unusedSimpArgs false
set_option linter.unusedVariables false

/-- Step i of the script, cell by cell. -/
def StpAt (w : World) (b p : Nat) (o : Stp) : Prop :=
  w.cell? ⟨b, p, none⟩ = some (.int .i64 o.kind) ∧ w.cell? ⟨b, p + 1, none⟩ = some (.int .i64 o.a) ∧ w.cell? ⟨b, p + 2, none⟩ = some (.int .i64 o.b) ∧
  w.cell? ⟨b, p + 3, none⟩ = some (.int .i64 o.c) ∧ w.cell? ⟨b, p + 4, none⟩ = some (.string o.s) ∧ w.cell? ⟨b, p + 5, none⟩ = some (.string o.t)
theorem StpAt.frS {w w' : World} {b p : Nat} {o : Stp} {S : Nat → Prop} (h : StpAt w b p o) (hf : Fr S w w') (hn : ¬ S b) : StpAt w' b p o := by
  obtain ⟨h0, h1, h2, h3, h4, h5⟩ := h
  have hb : b < w.heap.size := World.block_lt_of_cell? (a := ⟨b, p, none⟩) w h0
  have e : ∀ q, w'.cell? ⟨b, q, none⟩ = w.cell? ⟨b, q, none⟩ := fun q => hf.cell (p := ⟨b, q, none⟩) hb hn
  exact ⟨by rw [e, h0], by rw [e, h1], by rw [e, h2], by rw [e, h3], by rw [e, h4], by rw [e, h5]⟩
theorem StpAt.new (w : World) (o : Stp) : StpAt (w.alloc (.cells #[.int .i64 o.kind, .int .i64 o.a, .int .i64 o.b, .int .i64 o.c, .string o.s, .string o.t] 49)) w.heap.size 0 o :=
  ⟨(At.new w _ _ rfl).c, (At.new w _ _ rfl).c, (At.new w _ _ rfl).c, (At.new w _ _ rfl).c, (At.new w _ _ rfl).c, (At.new w _ _ rfl).c⟩
theorem StpAt.fr {w w' : World} {b p : Nat} {o : Stp} (h : StpAt w b p o) (hf : Fr (fun _ => False) w w') : StpAt w' b p o := h.frS hf (fun h => h)

theorem LR.lock2 {w w' : World} {b : LB} {s : Led} (h : LR w b s) {lk : L.St} (hr : RT w' b.T b.C b.R lk) {S : Nat → Prop} (hf : Fr S w w') (hn : ∀ i, S3L b i → ¬ S i) : LR w' b ⟨lk, s.bal, s.un⟩ :=
  ⟨hr, h.lv.fr hf hn, h.bl, h.ul, h.tot⟩

/-- Both sides stand at one state; what the law itself holds. -/
structure Both (w0 w : World) (b : LB) (X M pB : Nat) (s : Led) (v : Value) (l : List Int) (n : Nat) : Prop where
  r : LR w b s
  m : ML w X M s
  ap : ∀ i, SL b i → ¬ SM X M i
  lo : ∀ i, SL b i ∨ SM X M i → w0.heap.size ≤ i ∧ i ≠ pB
  pb : At w pB 0 (.pointer (some ⟨b.T, 0, none⟩))
  pn : w0.heap.size ≤ pB
  ow : OwnI w w0.heap.size v l
  os : ∀ k, v.ownBlock = some k → ¬ SL b k ∧ ¬ SM X M k ∧ k ≠ pB
  ll : l.length ≤ n
  f : Fr (fun _ => False) w0 w
section
variable {w0 w w' : World} {b : LB} {X M pB : Nat} {s s' : Led} {v v' : Value} {l l' : List Int} {n n' : Nat}
theorem Both.turn (h : Both w0 w b X M pB s v l n) (hf : Fr (fun i => SL b i ∨ SM X M i ∨ v.ownBlock = some i) w w') (r : LR w' b s') (m : ML w' X M s') (ow : OwnI w' w0.heap.size v' l') (ho : ∀ q, v'.ownBlock = some q → v.ownBlock = some q ∨ w.heap.size ≤ q) (hl : l'.length ≤ n') : Both w0 w' b X M pB s' v' l' n' := by
  refine ⟨r, m, h.ap, h.lo, h.pb.fr hf ?_, h.pn, ow, fun q hq => ?_, hl, h.f.then hf (fun i hi c => ?_)⟩
  · rintro (c | c | c)
    · exact (h.lo _ (.inl c)).2 rfl
    · exact (h.lo _ (.inr c)).2 rfl
    · exact (h.os _ c).2.2 rfl
  · rcases ho q hq with c | c
    · exact h.os q c
    · exact ⟨fun d => by have := h.r.lt q d; omega, fun d => by have := h.m.lt q d; omega, fun d => by have := h.pb.lt; omega⟩
  · rcases c with c | c | c
    · have := (h.lo i (.inl c)).1; omega
    · have := (h.lo i (.inr c)).1; omega
    · have := (h.ow.lt c).1; omega
theorem Both.quiet (h : Both w0 w b X M pB s v l n) (hf : Fr (fun _ => False) w w') : Both w0 w' b X M pB s v l n :=
  h.turn (hf.mono (fun _ _ h => h.elim)) (h.r.fr hf (fun _ _ h => h)) (h.m.fr hf (fun _ _ h => h)) (h.ow.fr hf (fun _ _ h => h)) (fun q hq => .inl hq) h.ll
theorem Both.upto (h : Both w0 w b X M pB s v l n) (hn : n ≤ n') : Both w0 w b X M pB s v l n' := { h with ll := Nat.le_trans h.ll hn }
end

theorem both_new {w0 wa w2 w3 : World} {bT bC bR X M pB : Nat} {b : LB} (h0 : Fr (fun _ => False) w0 wa) (hp : At wa pB 0 (.pointer (some ⟨bT, 0, none⟩))) (pn : w0.heap.size ≤ pB) (h3 : ∀ i, S3 bT bC bR i → w0.heap.size ≤ i ∧ i ≠ pB)
    (hT : b.T = bT) (hC : b.C = bC) (hR : b.R = bR) (lr : LR w2 b (led0 L.init)) (hl : ∀ i, S3L b i → wa.heap.size ≤ i) (f2 : Fr (fun _ => False) wa w2) (hM : w2.heap.size ≤ M) (hX : M < X) (ml : ML w3 X M (led0 L.init)) (f3 : Fr (fun _ => False) w2 w3) (n : Nat) :
    Both w0 w3 b X M pB (led0 L.init) (.slice none 0 0) [] n := by
  subst hT hC hR
  have z0 := h0.size
  have z2 := f2.size
  have hpl := hp.lt
  have hm : ∀ i, SM X M i → w2.heap.size ≤ i := by rintro i (rfl | rfl) <;> omega
  have hb : ∀ i, SL b i → w0.heap.size ≤ i ∧ i ≠ pB := by
    rintro i (c | c)
    · have := hl i c; omega
    · exact h3 i c
  refine ⟨lr.fr f3 (fun _ _ h => h), ml, fun i c d => by have := lr.lt i c; have := hm i d; omega, ?_, (hp.fr f2 (fun h => h)).fr f3 (fun h => h), pn, OwnI.nil _ _, fun k hk => by simp [Value.ownBlock] at hk, by simp, (h0.trans f2).trans f3⟩
  rintro i (c | c)
  · exact hb i c
  · have := hm i c; omega

theorem walk_any {w : World} {b off len cap : Nat} (f : Nat → Stp) (hb : b < w.heap.size) (hs : ∀ i, i < len → StpAt w b (off + i * 6) (f i)) (hlen : len ≤ 9223372036854775807) (quiet : Bool) :
    Calls Try.prog 31 #[.slice (some ⟨b, off, none⟩) len cap, .bool quiet] w fun e w' => ∃ n : Int, e = .returned (.tuple #[.int .i64 (-1), .int .i64 n]) ∧ Fr (fun _ => False) w w' := by
  have hlen' : (len : Int) ≤ 9223372036854775807 := by omega
  have HS := hid hs
  clear hs
  go_enter Try.func31, Try.ntmps31
  go_wp2_with fail
  refine (ground_any _).mono ?_
  rintro e w1 ⟨bT, bC, bR, rfl, hr1, hn1, hf1⟩
  have R1 := hid hr1
  have N1 := hid hn1
  have F1 := hid hf1
  clear hr1 hn1 hf1
  go_wp2_with fail
  have FA := hid (F1.out.alloc (.cells #[.pointer (some ⟨bT, 0, none⟩)] 28))
  have PA := hid (At.new w1 #[.pointer (some ⟨bT, 0, none⟩)] 28 (o := 0) rfl)
  have R2 := hid (R1.out.fr ((Fr.refl (fun _ => False) w1).alloc (.cells #[.pointer (some ⟨bT, 0, none⟩)] 28)) (fun h => h) (fun h => h) (fun h => h))
  have HZ : Hid (w.heap.size ≤ w1.heap.size ∧ ∀ i, S3 bT bC bR i → i ≠ w1.heap.size) := by
    refine ⟨F1.out.size, fun i c => ?_⟩
    have := R1.out.lt
    rcases c with rfl | rfl | rfl
    · exact Nat.ne_of_lt this.1
    · exact Nat.ne_of_lt this.2.1
    · exact Nat.ne_of_lt this.2.2
  clear R1 F1
  generalize w1.alloc (.cells #[.pointer (some ⟨bT, 0, none⟩)] 28) = wa at *
  generalize w1.heap.size = pB at *
  refine (lnew_any R2.out).mono ?_
  rintro e w2 ⟨lb, rfl, hT, hC, hR, lr, hl, f2⟩
  have HQ : Hid (lb.T = bT ∧ lb.C = bC ∧ lb.R = bR) := ⟨hT, hC, hR⟩
  have LR2 := hid lr
  have HL2 := hid hl
  have F2 := hid f2
  clear hT hC hR lr hl f2
  go_wp2_with fail
  refine (mlnew_any _).mono ?_
  rintro e w3 ⟨X, M, hM, hX, rfl, ml, f3⟩
  have HB := hid (both_new FA.out PA.out HZ.out.1 (fun i c => ⟨N1.out i c, HZ.out.2 i c⟩) HQ.out.1 HQ.out.2.1 HQ.out.2.2 LR2.out HL2.out F2.out hM hX ml f3 0)
  clear hM hX ml f3 FA PA HZ N1 R2 HQ LR2 HL2 F2
  go_wp2_with fail
  go_loopw [7, 8, 9, 10] (fun x m v i wr => ∃ (k : Nat) (s : Led) (lb : LB) (X M : Nat) (l : List Int), k ≤ len ∧ x = .pointer (some ⟨lb.D, 0, none⟩) ∧ m = .pointer (some ⟨X, 0, none⟩) ∧ i = .int .i64 k ∧ Both w wr lb X M pB s v l k) (fun _ _ _ i _ => len - (intOf i).toNat)
  case atStart => exact ⟨0, led0 L.init, lb, X, M, [], by omega, rfl, rfl, rfl, HB.out⟩
  case round =>
    clear HB
    obtain ⟨k, s, lb, X, M, l, hk, rfl, rfl, rfl, hB⟩ := hrel
    have HB := hid hB
    have hk0 : (0 : Int) ≤ (k : Int) := by omega
    by_cases hlt : k < len
    · have hltI : (k : Int) < (len : Int) := by omega
      by_cases hmx : (k : Int) < 4398046511104
      · have hst := (HS.out k hlt).fr hB.f
        obtain ⟨c0, c1, c2, c3, c4, c5⟩ := hst
        have HLK : Hid (l.length ≤ 4398046511104) := by have := hB.ll; unfold Hid; omega
        clear hB
        generalize f k = o at *
        go_upto_region 9 with fail
        have HW := hid (HB.out.quiet ((Fr.refl (fun _ => False) wr).alloc (.cells #[.int .i64 o.kind, .int .i64 o.a, .int .i64 o.b, .int .i64 o.c, .string o.s, .string o.t] 49)))
        have HPO := hid (StpAt.new wr o)
        have hzO : wr.heap.size < (wr.alloc (.cells #[.int .i64 o.kind, .int .i64 o.a, .int .i64 o.b, .int .i64 o.c, .string o.s, .string o.t] 49)).heap.size := by simp
        have HOL : Hid (∀ i, (SL lb i ∨ SM X M i ∨ u9.ownBlock = some i ∨ i = pB) → i ≠ wr.heap.size) := by
          rintro i (c | c | c | c)
          · exact Nat.ne_of_lt (HB.out.r.lt i c)
          · exact Nat.ne_of_lt (HB.out.m.lt i c)
          · exact Nat.ne_of_lt (HB.out.ow.lt c).2
          · rw [c]; exact Nat.ne_of_lt HB.out.pb.lt
        have HWO : Hid (w.heap.size ≤ wr.heap.size) := HB.out.f.size
        clear c0 c1 c2 c3 c4 c5 HB
        generalize wr.alloc (.cells #[.int .i64 o.kind, .int .i64 o.a, .int .i64 o.b, .int .i64 o.c, .string o.s, .string o.t] 49) = W at *
        generalize wr.heap.size = pO at *
        obtain ⟨d0, d1, d2, d3, d4, d5⟩ := HPO.out
        simp only [Nat.zero_add] at d1 d2 d3 d4 d5
        have hp := HW.out.pb.c
        go_wp2_with fail
        refine (mlocks_any HW.out.m).mono ?_
        rintro e z ⟨rfl, hz⟩
        obtain rfl := hz.symm
        by_cases h1 : o.kind = 1
        · have h1b : (o.kind == 1) = true := beq_iff_eq.2 h1
          clear h1
          go_wp2_with fail
          refine (ground_any _).mono ?_
          rintro e w1 ⟨bT, bC, bR, rfl, hr1, hn1, hf1⟩
          have N1 := hid hn1
          have PB1 := hid (HW.out.pb.fr hf1 (fun h => h))
          have hp1 := PB1.out.c
          have xp1 := PB1.out.f
          have np : ∀ i, S3 bT bC bR i → i ≠ pB := fun i c => by have := hn1 i c; have := HW.out.pb.lt; omega
          have NP := hid np
          have fs : Fr (fun i => i = pB) w1 (w1.setCell ⟨pB, 0, none⟩ (.pointer (some ⟨bT, 0, none⟩))) := in_fr _ _ _ (Fr.refl _ _)
          have R2 := hid (hr1.fr fs (np _ (.inl rfl)) (np _ (.inr (.inl rfl))) (np _ (.inr (.inr rfl))))
          have PA := hid (PB1.out.same (.pointer (some ⟨bT, 0, none⟩)))
          have FA : Hid (Fr (fun _ => False) w (w1.setCell ⟨pB, 0, none⟩ (.pointer (some ⟨bT, 0, none⟩)))) := (HW.out.f.trans hf1).then fs (fun i hi e => by have := HW.out.pn; omega)
          have HN : Hid (∀ i, S3 bT bC bR i → w.heap.size ≤ i) := fun i c => by have := hn1 i c; have := HW.out.f.size; omega
          have PN := hid HW.out.pn
          clear hr1 hn1 hf1 np fs PB1 N1 hp HW
          go_upto_region 17 with fail
          clear hp1 xp1
          generalize w1.setCell ⟨pB, 0, none⟩ (.pointer (some ⟨bT, 0, none⟩)) = wa at *
          have hp := PA.out.c
          go_wp2_with fail
          refine (lnew_any R2.out).mono ?_
          rintro e w2 ⟨lb, rfl, hT, hC, hR, lr, hl, f2⟩
          have HQ : Hid (lb.T = bT ∧ lb.C = bC ∧ lb.R = bR) := ⟨hT, hC, hR⟩
          have LR2 := hid lr
          have HL2 := hid hl
          have F2 := hid f2
          clear hT hC hR lr hl f2
          go_wp2_with fail
          refine (mlnew_any _).mono ?_
          rintro e w3 ⟨X, M, hM, hX, rfl, ml, f3⟩
          have HB5 := hid (both_new FA.out PA.out PN.out (fun i c => ⟨HN.out i c, NP.out i c⟩) HQ.out.1 HQ.out.2.1 HQ.out.2.2 LR2.out HL2.out F2.out hM hX ml f3 (k + 1))
          clear hM hX ml f3 FA PA PN HN NP R2 HQ LR2 HL2 F2 hp
          have hp := HB5.out.pb.c
          go_wp2_with fail
          refine (mlocks_any HB5.out.m).mono ?_
          rintro e z ⟨rfl, hz⟩
          obtain rfl := hz.symm
          go_wp2_with fail
          refine (show_any HB5.out.r.rt).mono ?_
          rintro e w6 ⟨rfl, hf6⟩
          have HB6 := hid (HB5.out.quiet hf6)
          clear hf6 hp HB5
          go_wp2_with fail
          refine (mshow_any HB6.out.m.mt).mono ?_
          rintro e w7 ⟨rfl, hf7⟩
          have HB7 := hid (HB6.out.quiet hf7)
          clear hf7 HB6
          cases quiet
          · go_wp2_with fail
            refine (lshow_any HB7.out.r).mono ?_
            rintro e w8 ⟨rfl, hf8⟩
            have HB8 := hid (HB7.out.quiet hf8)
            clear hf8 HB7
            go_wp2_with fail
            refine (mlshow_any HB8.out.m).mono ?_
            rintro e w9 ⟨rfl, hf9⟩
            have HB9 := hid (HB8.out.quiet hf9)
            clear hf9 HB8
            go_wp2_with fail
            refine (lcheck_any HB9.out.r).mono ?_
            rintro e z ⟨rfl, hz⟩
            obtain rfl := hz.symm
            go_wp2_with fail
            exact ⟨⟨k + 1, led0 L.init, lb, X, M, [], by omega, rfl, rfl, by go_num, HB9.out⟩, by simp [intOf]; omega⟩
          · go_wp2_with fail
            exact ⟨⟨k + 1, led0 L.init, lb, X, M, [], by omega, rfl, rfl, by go_num, HB7.out⟩, by simp [intOf]; omega⟩
        by_cases h9 : o.kind = 9
        · have h1b : (o.kind == 1) = false := beq_eq_false_iff_ne.2 h1
          have h9b : (o.kind == 9) = true := beq_iff_eq.2 h9
          clear h1 h9
          go_upto_region 22 with fail
          have FA := hid ((Fr.refl (fun _ => False) W).alloc (.cells #[.int .i64 0, .int .i64 0, .int .i64 0, .string ⟨#[]⟩] 51))
          have BX := hid (Box.new W)
          have HWA := hid (HW.out.quiet FA.out)
          have FWA := hid FA.out
          have HPA := hid (HPO.out.fr FA.out)
          have hza : W.heap.size < (W.alloc (.cells #[.int .i64 0, .int .i64 0, .int .i64 0, .string ⟨#[]⟩] 51)).heap.size := by simp
          have NA : Hid (∀ i, (SL lb i ∨ SM X M i ∨ u9.ownBlock = some i ∨ i = pB) → i ≠ W.heap.size) := by
            rintro i (c | c | c | c)
            · exact Nat.ne_of_lt (HW.out.r.lt i c)
            · exact Nat.ne_of_lt (HW.out.m.lt i c)
            · exact Nat.ne_of_lt (HW.out.ow.lt c).2
            · rw [c]; exact Nat.ne_of_lt HW.out.pb.lt
          have hpa : pO ≠ W.heap.size := Nat.ne_of_lt hzO
          clear d0 d1 d2 d3 d4 d5 hp HPO FA
          generalize W.alloc (.cells #[.int .i64 0, .int .i64 0, .int .i64 0, .string ⟨#[]⟩] 51) = wa at *
          obtain ⟨pA, hpA⟩ : ∃ pA, pA = W.heap.size := ⟨_, rfl⟩
          rw [← hpA] at hza NA BX hpa ⊢
          have HPQ := hid hpA
          clear hpA
          have hp := HWA.out.pb.c
          obtain ⟨d0, d1, d2, d3, d4, d5⟩ := HPA.out
          simp only [Nat.zero_add] at d1 d2 d3 d4 d5
          have HG := grab_any HWA.out.r.rt HWA.out.ow (fun q hq c => (HWA.out.os q hq).1 (.inr c)) HWA.out.f.size HLK.out o.a
          simp only [ansV] at HG
          have HG := hid HG
          go_wp2_with fail
          refine HG.out.mono ?_
          rintro e w4 ⟨v', rfl, hr4, ow4, ho4, hf4⟩
          have n4 : ∀ i, (S3 lb.T lb.C lb.R i ∨ u9.ownBlock = some i) → i ≠ pO := by
            rintro i (c | c)
            · exact HOL.out i (.inl (.inr c))
            · exact HOL.out i (.inr (.inr (.inl c)))
          have n5 : ∀ i, (S3 lb.T lb.C lb.R i ∨ u9.ownBlock = some i) → i ≠ pA := by
            rintro i (c | c)
            · exact NA.out i (.inl (.inr c))
            · exact NA.out i (.inr (.inr (.inl c)))
          have HP4 := hid (HPA.out.frS hf4 (fun c => n4 _ c rfl))
          have B4 := hid (BX.out.fr hf4 (fun c => n5 _ c rfl))
          have r4 := HWA.out.r.lock2 hr4 hf4 (fun i c d => by
            rcases d with d | d
            · exact HWA.out.r.lv.ok.apart i c d
            · exact (HWA.out.os i d).1 (.inl c))
          have m4 := HWA.out.m.fr hf4 (fun i c d => by
            rcases d with d | d
            · exact HWA.out.ap i (.inr d) c
            · exact (HWA.out.os i d).2.1 c)
          have R4 := hid r4
          have M4 := hid m4
          have O4 := hid ow4
          have HO4 := hid ho4
          have F4 := hid hf4
          have hz4 : pO < w4.heap.size := by have := hf4.size; have := FWA.out.size; omega
          clear hr4 hf4 n4 n5 r4 m4 ow4 ho4 HG d0 d1 d2 d3 d4 d5 hp
          have g0 := B4.out.a0.c
          have g1 := B4.out.a1.c
          have g2 := B4.out.a2.c
          have g3 := B4.out.a3.c
          have x0 := B4.out.a0.f
          have x1 := B4.out.a1.f
          have x2 := B4.out.a2.f
          have x3 := B4.out.a3.f
          obtain ⟨d0, d1, d2, d3, d4, d5⟩ := HP4.out
          simp only [Nat.zero_add] at d1 d2 d3 d4 d5
          go_upto_region 23 with fail
          have fb : Fr (fun i => i = pA) w4 ((((w4.setCell ⟨pA, 0, none⟩ (.int .i64 (L.acq s.lk o.a).2.1)).setCell ⟨pA, 1, none⟩ (.int .i64 (L.acq s.lk o.a).1)).setCell ⟨pA, 2, none⟩ (.int .i64 0)).setCell ⟨pA, 3, none⟩ (.string ⟨#[]⟩)) := in_fr _ _ _ (in_fr _ _ _ (in_fr _ _ _ (in_fr _ _ _ (Fr.refl _ _))))
          have A0 : Hid (At ((((w4.setCell ⟨pA, 0, none⟩ (.int .i64 (L.acq s.lk o.a).2.1)).setCell ⟨pA, 1, none⟩ (.int .i64 (L.acq s.lk o.a).1)).setCell ⟨pA, 2, none⟩ (.int .i64 0)).setCell ⟨pA, 3, none⟩ (.string ⟨#[]⟩)) pA 0 (.int .i64 (L.acq s.lk o.a).2.1)) := (((B4.out.a0.same _).other (by omega) _).other (by omega) _).other (by omega) _
          have A1 : Hid (At ((((w4.setCell ⟨pA, 0, none⟩ (.int .i64 (L.acq s.lk o.a).2.1)).setCell ⟨pA, 1, none⟩ (.int .i64 (L.acq s.lk o.a).1)).setCell ⟨pA, 2, none⟩ (.int .i64 0)).setCell ⟨pA, 3, none⟩ (.string ⟨#[]⟩)) pA 1 (.int .i64 (L.acq s.lk o.a).1)) := (((B4.out.a1.other (by omega) _).same _).other (by omega) _).other (by omega) _
          have M5 := hid (M4.out.fr fb (fun i c d => NA.out i (.inr (.inl c)) d))
          have R5 := hid (R4.out.fr fb (fun i c d => NA.out i (.inl c) d))
          have P5 := hid (HP4.out.frS fb (fun e => hpa e))
          have O5 := hid (O4.out.fr fb (fun q hq e => by
            have e' : q = pA := e
            rcases HO4.out q hq with c | c
            · exact NA.out q (.inr (.inr (.inl c))) e'
            · omega))
          have FB := hid fb
          clear fb g0 g1 g2 g3 x0 x1 x2 x3 d0 d1 d2 d3 d4 d5 R4 HP4 B4 O4
          generalize (((w4.setCell ⟨pA, 0, none⟩ (.int .i64 (L.acq s.lk o.a).2.1)).setCell ⟨pA, 1, none⟩ (.int .i64 (L.acq s.lk o.a).1)).setCell ⟨pA, 2, none⟩ (.int .i64 0)).setCell ⟨pA, 3, none⟩ (.string ⟨#[]⟩) = w5 at *
          obtain ⟨d0, d1, d2, d3, d4, d5⟩ := P5.out
          simp only [Nat.zero_add] at d1 d2 d3 d4 d5
          go_wp2_with fail
          refine (macquire_any M5.out.mt o.a).mono ?_
          rintro e w6 ⟨rfl, rm, fm⟩
          have na : ¬ S1 M pA := fun c => NA.out pA (.inr (.inl (.inr c))) rfl
          have a0 := (A0.out.fr fm na).c
          have a1 := (A1.out.fr fm na).c
          have HB5 : Hid (Both w w6 lb X M pB ⟨(L.acq s.lk o.a).2.2, s.bal, s.un⟩ v' (held1 l (L.acq s.lk o.a)) (k + 1)) := by
            have hs := HWA.out.f.size
            have hwa : W.heap.size ≤ wa.heap.size := by have := HPQ.out; omega
            refine HW.out.turn (((FWA.out.mono (fun _ _ h => h.elim)).trans (F4.out.mono (fun i _ h => ?_))).then FB.out (fun i hi e => by have := HPQ.out; omega) |>.trans (fm.mono (fun _ _ h => .inr (.inl (SM_of1 h))))) (R5.out.fr fm (fun i c d => HWA.out.ap i c (SM_of1 d))) (M5.out.lock rm fm) (O5.out.fr fm (fun q hq c => ?_)) (fun q hq => ?_) ?_
            · rcases h with h | h
              · exact .inl (.inr h)
              · exact .inr (.inr h)
            · rcases HO4.out q hq with d | d
              · exact (HWA.out.os q d).2.1 (SM_of1 c)
              · have := HWA.out.m.lt q (SM_of1 c); omega
            · rcases HO4.out q hq with d | d
              · exact .inl d
              · exact .inr (by omega)
            · have := HWA.out.ll
              unfold held1
              split <;> simp <;> omega
          clear rm fm na A0 A1 M5 R5 P5 O5 FB F4 HO4 M4 NA BX HW HWA HPA FWA d0 d1 d2 d3 d4 d5
          go_upto_region 33 with fail
          clear a0 a1
          have hp := HB5.out.pb.c
          go_wp2_with fail
          refine (mlocks_any HB5.out.m).mono ?_
          rintro e z ⟨rfl, hz⟩
          obtain rfl := hz.symm
          go_wp2_with fail
          refine (show_any HB5.out.r.rt).mono ?_
          rintro e w6 ⟨rfl, hf6⟩
          have HB6 := hid (HB5.out.quiet hf6)
          clear hf6 hp HB5
          go_wp2_with fail
          refine (mshow_any HB6.out.m.mt).mono ?_
          rintro e w7 ⟨rfl, hf7⟩
          have HB7 := hid (HB6.out.quiet hf7)
          clear hf7 HB6
          cases quiet
          · go_wp2_with fail
            refine (lshow_any HB7.out.r).mono ?_
            rintro e w8 ⟨rfl, hf8⟩
            have HB8 := hid (HB7.out.quiet hf8)
            clear hf8 HB7
            go_wp2_with fail
            refine (mlshow_any HB8.out.m).mono ?_
            rintro e w9 ⟨rfl, hf9⟩
            have HB9 := hid (HB8.out.quiet hf9)
            clear hf9 HB8
            go_wp2_with fail
            refine (lcheck_any HB9.out.r).mono ?_
            rintro e z ⟨rfl, hz⟩
            obtain rfl := hz.symm
            go_wp2_with fail
            exact ⟨⟨k + 1, ⟨(L.acq s.lk o.a).2.2, s.bal, s.un⟩, lb, X, M, held1 l (L.acq s.lk o.a), by omega, rfl, rfl, by go_num, HB9.out⟩, by simp [intOf]; omega⟩
          · go_wp2_with fail
            exact ⟨⟨k + 1, ⟨(L.acq s.lk o.a).2.2, s.bal, s.un⟩, lb, X, M, held1 l (L.acq s.lk o.a), by omega, rfl, rfl, by go_num, HB7.out⟩, by simp [intOf]; omega⟩
        by_cases h10 : o.kind = 10
        · have h1b : (o.kind == 1) = false := beq_eq_false_iff_ne.2 h1
          have h9b : (o.kind == 9) = false := beq_eq_false_iff_ne.2 h9
          have h10b : (o.kind == 10) = true := beq_iff_eq.2 h10
          clear h1 h9 h10
          have HD := drop_any HW.out.r.rt HW.out.ow (fun q hq c => (HW.out.os q hq).1 (.inr c)) HLK.out
          have HD := hid HD
          obtain ⟨a7, cap7, hv, hcl⟩ := HW.out.ow.form2
          subst hv
          have HCL := hid hcl
          clear hcl
          go_wp2_with fail
          refine HD.out.mono ?_
          rintro e w1 ⟨rfl, r1, f1⟩
          have R1 := hid (HW.out.r.lock r1 f1)
          have M1 := hid (HW.out.m.fr f1 (fun i c d => HW.out.ap i (.inr d) c))
          have O1 := hid (HW.out.ow.fr f1 (fun q hq c => (HW.out.os q hq).1 (.inr c)))
          have F1 := hid f1
          have hlI : (l.length : Int) ≤ 4398046511104 := by have := HLK.out; omega
          have hl0 : (0 : Int) ≤ (l.length : Int) := by omega
          clear r1 f1 HD d0 d1 d2 d3 d4 d5 hp
          go_upto_region 29 with fail
          go_loopw [16] (fun jv wi => ∃ (m : Nat) (lk : L.St), jv = .int .i64 ((m : Int) - 1) ∧ m ≤ l.length ∧ relAll (l.reverse.drop (l.length - m)) lk = relAll l.reverse s.lk ∧ ML wi X M ⟨lk, s.bal, s.un⟩ ∧ Fr (SM X M) w1 wi) (fun jv _ => (intOf jv + 1).toNat)
          case atStart => exact ⟨l.length, s.lk, by go_num, Nat.le_refl _, by simp, M1.out, Fr.refl _ _⟩
          case round =>
            clear M1
            obtain ⟨m, lk, rfl, hmle, hrl, hm, hf⟩ := hrel
            have HRL := hid hrl
            have HM := hid hm
            have HF := hid hf
            clear hrl hm hf
            rcases m with _ | j
            · have hlk : lk = relAll l.reverse s.lk := by
                have := HRL.out
                rw [Nat.sub_zero, List.drop_of_length_le (by simp)] at this
                exact this
              subst hlk
              have HB5 : Hid (Both w wr lb X M pB ⟨relAll l.reverse s.lk, s.bal, s.un⟩ (.slice none 0 0) [] (k + 1)) :=
                HW.out.turn ((F1.out.mono (fun _ _ h => .inl (.inr h))).trans (HF.out.mono (fun _ _ h => .inr (.inl h)))) (R1.out.fr HF.out (fun i c d => HW.out.ap i c d)) HM.out (OwnI.nil _ _) (fun q hq => by simp [Value.ownBlock] at hq) (by simp)
              clear HM HF R1 F1 O1 HRL HCL HW
              go_upto_region 33 with fail
              have hp := HB5.out.pb.c
              go_wp2_with fail
              refine (mlocks_any HB5.out.m).mono ?_
              rintro e z ⟨rfl, hz⟩
              obtain rfl := hz.symm
              go_wp2_with fail
              refine (show_any HB5.out.r.rt).mono ?_
              rintro e w6 ⟨rfl, hf6⟩
              have HB6 := hid (HB5.out.quiet hf6)
              clear hf6 hp HB5
              go_wp2_with fail
              refine (mshow_any HB6.out.m.mt).mono ?_
              rintro e w7 ⟨rfl, hf7⟩
              have HB7 := hid (HB6.out.quiet hf7)
              clear hf7 HB6
              cases quiet
              · go_wp2_with fail
                refine (lshow_any HB7.out.r).mono ?_
                rintro e w8 ⟨rfl, hf8⟩
                have HB8 := hid (HB7.out.quiet hf8)
                clear hf8 HB7
                go_wp2_with fail
                refine (mlshow_any HB8.out.m).mono ?_
                rintro e w9 ⟨rfl, hf9⟩
                have HB9 := hid (HB8.out.quiet hf9)
                clear hf9 HB8
                go_wp2_with fail
                refine (lcheck_any HB9.out.r).mono ?_
                rintro e z ⟨rfl, hz⟩
                obtain rfl := hz.symm
                go_wp2_with fail
                exact ⟨⟨k + 1, ⟨relAll l.reverse s.lk, s.bal, s.un⟩, lb, X, M, [], by omega, rfl, rfl, by go_num, HB9.out⟩, by simp [intOf]; omega⟩
              · go_wp2_with fail
                exact ⟨⟨k + 1, ⟨relAll l.reverse s.lk, s.bal, s.un⟩, lb, X, M, [], by omega, rfl, rfl, by go_num, HB7.out⟩, by simp [intOf]; omega⟩
            · have hj1 : ((j + 1 : Nat) : Int) - 1 = (j : Int) := by omega
              rw [hj1]
              have hj0 : (0 : Int) ≤ (j : Int) := by omega
              have hjl : (j : Int) < (l.length : Int) := by omega
              have hjl' : j < l.length := by omega
              obtain ⟨g, rfl, hown⟩ := HCL.out j hjl'
              have ng := (HW.out.os g hown).2.1
              have cg := ((O1.out.cell rfl (j := j) hjl').fr HF.out ng).c
              obtain ⟨hh, hhq⟩ : ∃ hh, hh = l.getD j 0 := ⟨_, rfl⟩
              have HDR := hid (drop_rev hjl')
              rw [← hhq] at cg HDR
              clear hhq hj1
              go_wp2_with fail
              refine (mrelease_any HM.out.mt hh).mono ?_
              rintro e z ⟨rfl, rz, gz⟩
              have MZ := hid (HM.out.lock rz gz)
              have FZ : Hid (Fr (SM X M) w1 z) := HF.out.trans (gz.mono (fun _ _ h => SM_of1 h))
              clear rz gz
              go_wp2_with fail
              refine ⟨⟨j, (L.rel lk hh).2, rfl, by omega, ?_, MZ.out, FZ.out⟩, by simp [intOf] <;> omega⟩
              have := HRL.out
              rw [HDR.out] at this
              exact this
        · have h1b : (o.kind == 1) = false := beq_eq_false_iff_ne.2 h1
          have h9b : (o.kind == 9) = false := beq_eq_false_iff_ne.2 h9
          have h10b : (o.kind == 10) = false := beq_eq_false_iff_ne.2 h10
          clear h1 h9 h10
          have HA := do_any HW.out.r o
          simp only [Stp.val, doV, ansV] at HA
          have HA := hid HA
          go_wp2_with fail
          refine HA.out.mono ?_
          rintro e w4 ⟨rfl, hr4, hf4⟩
          have n4 : ¬ SL lb pO := fun c => HOL.out pO (.inl c) rfl
          have HP4 := hid (HPO.out.frS hf4 n4)
          have R4 := hid hr4
          have F4 := hid hf4
          have M4 := hid (HW.out.m.fr hf4 (fun i c d => HW.out.ap i d c))
          have O4 := hid (HW.out.ow.fr hf4 (fun q hq => (HW.out.os q hq).1))
          have hz4 : pO < w4.heap.size := Nat.lt_of_lt_of_le hzO hf4.size
          clear hr4 hf4 n4 HA d0 d1 d2 d3 d4 d5 hp
          obtain ⟨d0, d1, d2, d3, d4, d5⟩ := HP4.out
          simp only [Nat.zero_add] at d1 d2 d3 d4 d5
          go_wp2_with fail
          have FA := hid ((Fr.refl (fun _ => False) w4).alloc (.cells #[.int .i64 (doE s o), .int .i64 (doN s o), .int .i64 0, .string (doT s o)] 51))
          have AN := hid (fun q v (hv : (#[.int .i64 (doE s o), .int .i64 (doN s o), .int .i64 0, .string (doT s o)] : Array Value)[q]? = some v) => At.new w4 #[.int .i64 (doE s o), .int .i64 (doN s o), .int .i64 0, .string (doT s o)] 51 (o := q) hv)
          have hza : w4.heap.size < (w4.alloc (.cells #[.int .i64 (doE s o), .int .i64 (doN s o), .int .i64 0, .string (doT s o)] 51)).heap.size := by simp
          have NA : Hid (¬ SM X M w4.heap.size) := fun c => by have := M4.out.lt _ c; omega
          generalize w4.alloc (.cells #[.int .i64 (doE s o), .int .i64 (doN s o), .int .i64 0, .string (doT s o)] 51) = wa at *
          generalize w4.heap.size = pA at *
          have HA := dom_any (M4.out.fr FA.out (fun _ _ h => h)) o
          simp only [Stp.val, doV, ansV] at HA
          have HA := hid HA
          refine HA.out.mono ?_
          rintro e w5 ⟨rfl, hm5, hf5⟩
          have a0 := ((AN.out 0 _ rfl).fr hf5 NA.out).c
          have a1 := ((AN.out 1 _ rfl).fr hf5 NA.out).c
          have a2 := ((AN.out 2 _ rfl).fr hf5 NA.out).c
          have a3 := ((AN.out 3 _ rfl).fr hf5 NA.out).c
          have hzb : pA < w5.heap.size := Nat.lt_of_lt_of_le hza hf5.size
          have HB4 : Hid (Both w w5 lb X M pB (doS s o) u9 l (k + 1)) := by
            have r5 := (R4.out.fr FA.out (fun _ _ h => h)).fr hf5 (fun i c d => HW.out.ap i c d)
            have o5 := (O4.out.fr FA.out (fun _ _ h => h)).fr hf5 (fun q hq => (HW.out.os q hq).2.1)
            exact HW.out.turn (((F4.out.mono (fun _ _ h => .inl h)).trans (FA.out.mono (fun _ _ h => h.elim))).trans (hf5.mono (fun _ _ h => .inr (.inl h)))) r5 hm5 o5 (fun q hq => .inl hq) (Nat.le_succ_of_le HW.out.ll)
          clear hm5 hf5 HA d0 d1 d2 d3 d4 d5 HP4 R4 F4 M4 O4 FA AN NA HW
          go_upto_region 33 with fail
          have HB5 := hid (HB4.out.quiet ((Fr.refl (fun _ => False) w5).alloc (.cells #[.int .i64 (doE s o), .int .i64 (doN s o), .int .i64 0, .string (doT s o)] 51)))
          clear a0 a1 a2 a3 HB4
          generalize w5.alloc (.cells #[.int .i64 (doE s o), .int .i64 (doN s o), .int .i64 0, .string (doT s o)] 51) = W5 at *
          have hp := HB5.out.pb.c
          go_wp2_with fail
          refine (mlocks_any HB5.out.m).mono ?_
          rintro e z ⟨rfl, hz⟩
          obtain rfl := hz.symm
          go_wp2_with fail
          refine (show_any HB5.out.r.rt).mono ?_
          rintro e w6 ⟨rfl, hf6⟩
          have HB6 := hid (HB5.out.quiet hf6)
          clear hf6 hp HB5
          go_wp2_with fail
          refine (mshow_any HB6.out.m.mt).mono ?_
          rintro e w7 ⟨rfl, hf7⟩
          have HB7 := hid (HB6.out.quiet hf7)
          clear hf7 HB6
          cases quiet
          · go_wp2_with fail
            refine (lshow_any HB7.out.r).mono ?_
            rintro e w8 ⟨rfl, hf8⟩
            have HB8 := hid (HB7.out.quiet hf8)
            clear hf8 HB7
            go_wp2_with fail
            refine (mlshow_any HB8.out.m).mono ?_
            rintro e w9 ⟨rfl, hf9⟩
            have HB9 := hid (HB8.out.quiet hf9)
            clear hf9 HB8
            go_wp2_with fail
            refine (lcheck_any HB9.out.r).mono ?_
            rintro e z ⟨rfl, hz⟩
            obtain rfl := hz.symm
            go_wp2_with fail
            exact ⟨⟨k + 1, doS s o, lb, X, M, l, by omega, rfl, rfl, by go_num, HB9.out⟩, by simp [intOf]; omega⟩
          · go_wp2_with fail
            exact ⟨⟨k + 1, doS s o, lb, X, M, l, by omega, rfl, rfl, by go_num, HB7.out⟩, by simp [intOf]; omega⟩
      · have hge : ¬ (k : Int) < 4398046511104 := hmx
        have HF := hid hB.f
        have hlL : ¬ (len : Int) < 4398046511104 := by omega
        clear hB
        go_wp2_with fail
        go_ret2
        exact ⟨⟨_, rfl⟩, HF.out⟩
    · have hge : ¬ (k : Int) < (len : Int) := by omega
      have HF := hid hB.f
      clear hB
      by_cases hL : (len : Int) < 4398046511104
      · go_wp2_with fail
        go_ret2
        exact ⟨⟨_, rfl⟩, HF.out⟩
      · go_wp2_with fail
        go_ret2
        exact ⟨⟨_, rfl⟩, HF.out⟩

end Go.Proofs.Qxb6500453a
