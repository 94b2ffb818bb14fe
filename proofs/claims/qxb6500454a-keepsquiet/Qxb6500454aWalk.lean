import Derived.Test.Qxb6500454aDo
namespace Go.Proofs.Qxb6500454a
open Go Go.RowKit
set_option maxRecDepth 100000
set_option maxHeartbeats 1600000
set_option linter.unusedSimpArgs false
set_option linter.unusedVariables false

/-- Step i of the script, cell by cell. -/
def StpAt (w : World) (b p : Nat) (o : Stp) : Prop :=
  w.cell? ⟨b, p, none⟩ = some (.int .i64 o.kind) ∧ w.cell? ⟨b, p + 1, none⟩ = some (.int .i64 o.a) ∧ w.cell? ⟨b, p + 2, none⟩ = some (.int .i64 o.b) ∧
  w.cell? ⟨b, p + 3, none⟩ = some (.int .i64 o.c) ∧ w.cell? ⟨b, p + 4, none⟩ = some (.string o.s) ∧ w.cell? ⟨b, p + 5, none⟩ = some (.string o.t)

theorem StpAt.frS {w w' : World} {b p : Nat} {o : Stp} {S : Nat → Prop} (h : StpAt w b p o) (hf : Fr S w w') (hn : ¬ S b) : StpAt w' b p o := by
  obtain ⟨h0, h1, h2, h3, h4, h5⟩ := h
  have hb : b < w.heap.size := World.block_lt_of_cell? (a := ⟨b, p, none⟩) w h0
  have e : ∀ q, w'.cell? ⟨b, q, none⟩ = w.cell? ⟨b, q, none⟩ := fun q => hf.cell (p := ⟨b, q, none⟩) hb hn
  exact ⟨by rw [e, h0], by rw [e, h1], by rw [e, h2], by rw [e, h3], by rw [e, h4], by rw [e, h5]⟩

theorem StpAt.new (w : World) (o : Stp) : StpAt (w.alloc (.cells #[.int .i64 o.kind, .int .i64 o.a, .int .i64 o.b, .int .i64 o.c, .string o.s, .string o.t] 43)) w.heap.size 0 o :=
  ⟨(At.new w _ _ rfl).c, (At.new w _ _ rfl).c, (At.new w _ _ rfl).c, (At.new w _ _ rfl).c, (At.new w _ _ rfl).c, (At.new w _ _ rfl).c⟩

theorem StpAt.fr {w w' : World} {b p : Nat} {o : Stp} (h : StpAt w b p o) (hf : Fr (fun _ => False) w w') (hb : b < w.heap.size) : StpAt w' b p o := by
  obtain ⟨h0, h1, h2, h3, h4, h5⟩ := h
  have e : ∀ q, w'.cell? ⟨b, q, none⟩ = w.cell? ⟨b, q, none⟩ := fun q => hf.cell (p := ⟨b, q, none⟩) hb (fun f => f)
  exact ⟨by rw [e, h0], by rw [e, h1], by rw [e, h2], by rw [e, h3], by rw [e, h4], by rw [e, h5]⟩

/-- Both sides stand at one state. -/
structure Both (w0 w : World) (bT bC bR bM : Nat) (s : L.St) : Prop where
  r : RT w bT bC bR s
  m : MT w bM s
  n : ¬ S3 bT bC bR bM
  lT : w0.heap.size ≤ bT
  lC : w0.heap.size ≤ bC
  lR : w0.heap.size ≤ bR
  lM : w0.heap.size ≤ bM
  f : Fr (fun _ => False) w0 w

theorem ground_any (w : World) : Calls Try.prog 20 #[] w fun e w' => e = .returned (.agg #[]) ∧ Fr (fun _ => False) w w' := by
  go_enter Try.func20, Try.ntmps20
  go_wp2_with fail
  exact bodyPost_ret (v := .agg #[]) (by simp [results, Try.results20, go_sem]) rfl ⟨rfl, (Fr.refl _ _).alloc _⟩

theorem both_new {w0 w w1 w2 : World} (hf : Fr (fun _ => False) w0 w) (hr : RT w1 w.heap.size (w.heap.size + 1) (w.heap.size + 2) L.init) (hf1 : Fr (fun _ => False) w w1) (hm : MT w2 w1.heap.size L.init) (hf2 : Fr (fun _ => False) w1 w2) :
    Both w0 w2 w.heap.size (w.heap.size + 1) (w.heap.size + 2) w1.heap.size L.init := by
  have hl := hr.lt
  have hz := hf.size
  refine ⟨hr.fr hf2 (fun f => f) (fun f => f) (fun f => f), hm, by unfold S3; omega, by omega, by omega, by omega, by omega, (hf.trans hf1).trans hf2⟩

theorem Both.alloc {w0 w : World} {bT bC bR bM : Nat} {s : L.St} (h : Both w0 w bT bC bR bM s) (o : Obj) : Both w0 (w.alloc o) bT bC bR bM s :=
  ⟨h.r.alloc o, h.m.alloc o, h.n, h.lT, h.lC, h.lR, h.lM, h.f.alloc o⟩

theorem Both.apart {w0 w : World} {bT bC bR bM : Nat} {s : L.St} (h : Both w0 w bT bC bR bM s) : ∀ i, i < w0.heap.size → S3 bT bC bR i → False := fun i hi hs => by
  have := h.lT; have := h.lC; have := h.lR; unfold S3 at hs; omega

/-- Behind the real side's step. -/
theorem Both.real {w0 w w' : World} {bT bC bR bM : Nat} {s s' : L.St} (h : Both w0 w bT bC bR bM s) (hf : Fr (S3 bT bC bR) w w') : MT w' bM s ∧ Fr (fun _ => False) w0 w' :=
  ⟨h.m.fr hf h.n, h.f.then hf (fun i hi hs => h.apart i hi hs)⟩

/-- Behind both sides' steps. -/
theorem Both.step {w0 w w' w'' : World} {bT bC bR bM : Nat} {s s' : L.St} (h : Both w0 w bT bC bR bM s) (hr : RT w' bT bC bR s') (hf : Fr (S3 bT bC bR) w w') {o : Obj} (hm : MT w'' bM s') (hf' : Fr (S1 bM) (w'.alloc o) w'') : Both w0 w'' bT bC bR bM s' := by
  have hn := h.n
  unfold S3 at hn
  refine ⟨(hr.alloc o).fr hf' (by unfold S1; omega) (by unfold S1; omega) (by unfold S1; omega), hm, h.n, h.lT, h.lC, h.lR, h.lM, ((h.real (s' := s') hf).2.alloc o).then hf' (fun i hi hs => ?_)⟩
  have := h.lM
  unfold S1 at hs
  omega

theorem Both.quiet {w0 w w' : World} {bT bC bR bM : Nat} {s : L.St} (h : Both w0 w bT bC bR bM s) (hf : Fr (fun _ => False) w w') : Both w0 w' bT bC bR bM s :=
  ⟨h.r.fr hf (fun f => f) (fun f => f) (fun f => f), h.m.fr hf (fun f => f), h.n, h.lT, h.lC, h.lR, h.lM, h.f.trans hf⟩

theorem walk_any {w : World} {b off len cap : Nat} (f : Nat → Stp) (hb : b < w.heap.size) (hs : ∀ i, i < len → StpAt w b (off + i * 6) (f i)) (hlen : len ≤ 9223372036854775807) (quiet : Bool) :
    Calls Try.prog 25 #[.slice (some ⟨b, off, none⟩) len cap, .bool quiet] w fun e w' => ∃ n : Int, e = .returned (.tuple #[.int .i64 (-1), .int .i64 n]) ∧ Fr (fun _ => False) w w' := by
  have hlen' : (len : Int) ≤ 9223372036854775807 := by omega
  have HS := hid hs
  clear hs
  go_enter Try.func25, Try.ntmps25
  go_wp2_with fail
  refine (ground_any _).mono ?_
  rintro e w1 ⟨rfl, hf1⟩
  go_wp2_with fail
  refine (new_any _).mono ?_
  rintro e w2 ⟨rfl, hr2, hf2⟩
  have HR2 := hid hr2
  clear hr2
  go_wp2_with fail
  refine (mnew_any _).mono ?_
  rintro e w3 ⟨rfl, hm3, hf3⟩
  have HB := hid (both_new hf1 HR2.out hf2 hm3 hf3)
  clear hm3 hf1 hf2 hf3 HR2
  generalize w1.heap.size + 1 = bC at *
  generalize w1.heap.size + 2 = bR at *
  generalize w1.heap.size = bT at *
  generalize w2.heap.size = bM at *
  go_wp2_with fail
  go_loopw [6, 7, 8] (fun x m i wr => ∃ (k : Nat) (s : L.St) (bT bC bR bM : Nat), k ≤ len ∧ x = .pointer (some ⟨bT, 0, none⟩) ∧ m = .pointer (some ⟨bM, 0, none⟩) ∧ i = .int .i64 k ∧ Both w wr bT bC bR bM s) (fun _ _ i _ => len - (intOf i).toNat)
  case atStart => exact ⟨0, L.init, bT, bC, bR, bM, by omega, rfl, rfl, rfl, HB.out⟩
  case round =>
    clear HB
    obtain ⟨k, s, xT, xC, xR, xM, hk, rfl, rfl, rfl, hB⟩ := hrel
    have HB := hid hB
    have hk0 : (0 : Int) ≤ (k : Int) := by omega
    by_cases hlt : k < len
    · have hltI : (k : Int) < (len : Int) := by omega
      by_cases hmx : (k : Int) < 4398046511104
      · have hst := (HS.out k hlt).fr hB.f hb
        obtain ⟨c0, c1, c2, c3, c4, c5⟩ := hst
        clear hB
        generalize f k = o at *
        by_cases h1 : o.kind = 1
        · have h1b : (o.kind == 1) = true := beq_iff_eq.2 h1
          have H1 := hid h1
          clear h1
          go_wp2_with fail
          refine (new_any _).mono ?_
          rintro e w2 ⟨rfl, hr2, hf2⟩
          have HR2 := hid hr2
          have HF2 := hid hf2
          clear hr2 hf2
          go_wp2_with fail
          refine (mnew_any _).mono ?_
          rintro e W ⟨rfl, hm3, hf3⟩
          have HW := hid (both_new (HB.out.f.alloc _) HR2.out HF2.out hm3 hf3)
          have HPO := hid (((StpAt.new wr o).fr HF2.out (by simp)).fr hf3 (by have := HF2.out.size; simp at this; omega))
          have hzO : wr.heap.size < W.heap.size := by have := HF2.out.size; have := hf3.size; simp at *; omega
          have HN3 : Hid (¬ S3 (wr.heap.size + 1) (wr.heap.size + 1 + 1) (wr.heap.size + 1 + 2) wr.heap.size) := by unfold Hid S3; omega
          have HN1 : Hid (¬ S1 w2.heap.size wr.heap.size) := by unfold Hid S1; have := HF2.out.size; simp at this; omega
          have hwO : w.heap.size ≤ wr.heap.size := HB.out.f.size
          simp only [World.size_alloc] at HW
          clear c0 c1 c2 c3 c4 c5 hm3 hf3 HF2 HR2
          generalize wr.heap.size + 1 + 2 = yR at *
          generalize wr.heap.size + 1 + 1 = yC at *
          generalize wr.heap.size + 1 = yT at *
          generalize w2.heap.size = yM at *
          generalize wr.heap.size = pO at *
          obtain ⟨d0, d1, d2, d3, d4, d5⟩ := HPO.out
          simp only [Nat.zero_add] at d1 d2 d3 d4 d5
          go_wp2_with fail
          clear d0 d1 d2 d3 d4 d5
          have hA := do_any HW.out.r o
          simp only [Stp.val, doV, ansV] at hA
          have HA := hid hA
          clear hA
          refine HA.out.mono ?_
          rintro e w4 ⟨rfl, hr4, hf4⟩
          have hp4 := HPO.out.frS hf4 HN3.out
          have HP4 := hid hp4
          have HF4 := hid hf4
          have HR4 := hid hr4
          have hm4 := (HW.out.real (s' := L.init) hf4).1
          have HM4 := hid hm4
          obtain ⟨d0, d1, d2, d3, d4, d5⟩ := hp4
          have hz4 : pO < w4.heap.size := Nat.lt_of_lt_of_le hzO hf4.size
          clear hr4 hf4 hm4 HA
          go_wp2_with fail
          have hA := dom_any (HM4.out.alloc (.cells #[.int .i64 (doE L.init o), .int .i64 (doN L.init o), .int .i64 (doM L.init o), .string (L.bs (doT L.init o))] 45)) o
          simp only [Stp.val, doV, ansV] at hA
          have HA := hid hA
          clear hA
          refine HA.out.mono ?_
          rintro e w5 ⟨rfl, hm5, hf5⟩
          have HB5 := hid (HW.out.step HR4.out HF4.out hm5 hf5)
          have hna : ¬ S1 yM w4.heap.size := S1_not HM4.out (Nat.le_refl _)
          have a0 := ((At.new w4 #[.int .i64 (doE L.init o), .int .i64 (doN L.init o), .int .i64 (doM L.init o), .string (L.bs (doT L.init o))] 45 (o := 0) rfl).fr hf5 hna).c
          have a1 := ((At.new w4 #[.int .i64 (doE L.init o), .int .i64 (doN L.init o), .int .i64 (doM L.init o), .string (L.bs (doT L.init o))] 45 (o := 1) rfl).fr hf5 hna).c
          have a2 := ((At.new w4 #[.int .i64 (doE L.init o), .int .i64 (doN L.init o), .int .i64 (doM L.init o), .string (L.bs (doT L.init o))] 45 (o := 2) rfl).fr hf5 hna).c
          have a3 := ((At.new w4 #[.int .i64 (doE L.init o), .int .i64 (doN L.init o), .int .i64 (doM L.init o), .string (L.bs (doT L.init o))] 45 (o := 3) rfl).fr hf5 hna).c
          have hza : w4.heap.size < w5.heap.size := by have := hf5.size; simp at this; omega
          clear hm5 hf5 hna HA HR4 HF4 HM4 HP4 d0 d1 d2 d3 d4 d5
          generalize w4.heap.size = pA at *
          cases quiet
          · go_wp2_with fail
            have HB6 := hid (HB5.out.alloc (.cells #[.int .i64 (doE L.init o), .int .i64 (doN L.init o), .int .i64 (doM L.init o), .string (L.bs (doT L.init o))] 45))
            refine (show_any HB6.out.r).mono ?_
            rintro e w6 ⟨rfl, hf6⟩
            have HB7 := hid (HB6.out.quiet hf6)
            clear hf6 a0 a1 a2 a3
            go_wp2_with fail
            refine (mshow_any HB7.out.m).mono ?_
            rintro e w7 ⟨rfl, hf7⟩
            have HB8 := hid (HB7.out.quiet hf7)
            clear hf7
            go_wp2_with fail
            refine (check_any HB8.out.r).mono ?_
            rintro e w8 ⟨rfl, hf8⟩
            have HB9 := hid (HB8.out.quiet hf8)
            clear hf8
            go_wp2_with fail
            exact ⟨⟨k + 1, doS L.init o, yT, yC, yR, yM, by omega, rfl, rfl, by go_num, HB9.out⟩, by simp [intOf]; omega⟩
          · go_wp2_with fail
            exact ⟨⟨k + 1, doS L.init o, yT, yC, yR, yM, by omega, rfl, rfl, by go_num, HB5.out.alloc _⟩, by simp [intOf]; omega⟩
        · have h1b : (o.kind == 1) = false := beq_eq_false_iff_ne.2 h1
          have H1 := hid h1
          clear h1
          go_wp2_with fail
          have HW := hid (HB.out.alloc (.cells #[.int .i64 o.kind, .int .i64 o.a, .int .i64 o.b, .int .i64 o.c, .string o.s, .string o.t] 43))
          have HPO := hid (StpAt.new wr o)
          have hzO : wr.heap.size < (wr.alloc (.cells #[.int .i64 o.kind, .int .i64 o.a, .int .i64 o.b, .int .i64 o.c, .string o.s, .string o.t] 43)).heap.size := by simp
          have HN3 := hid (S3_not HB.out.r (Nat.le_refl _))
          have HN1 := hid (S1_not HB.out.m (Nat.le_refl _))
          have hwO : w.heap.size ≤ wr.heap.size := HB.out.f.size
          clear c0 c1 c2 c3 c4 c5
          generalize wr.alloc (.cells #[.int .i64 o.kind, .int .i64 o.a, .int .i64 o.b, .int .i64 o.c, .string o.s, .string o.t] 43) = W at *
          generalize wr.heap.size = pO at *
          obtain ⟨s1, hs1⟩ : ∃ s1, s1 = s := ⟨_, rfl⟩
          rw [← hs1] at HW
          clear hs1
          have hA := do_any HW.out.r o
          simp only [Stp.val, doV, ansV] at hA
          have HA := hid hA
          clear hA
          refine HA.out.mono ?_
          rintro e w4 ⟨rfl, hr4, hf4⟩
          have hp4 := HPO.out.frS hf4 HN3.out
          have HP4 := hid hp4
          have HF4 := hid hf4
          have HR4 := hid hr4
          have hm4 := (HW.out.real (s' := s1) hf4).1
          have HM4 := hid hm4
          obtain ⟨d0, d1, d2, d3, d4, d5⟩ := hp4
          have hz4 : pO < w4.heap.size := Nat.lt_of_lt_of_le hzO hf4.size
          clear hr4 hf4 hm4 HA
          go_wp2_with fail
          have hA := dom_any (HM4.out.alloc (.cells #[.int .i64 (doE s1 o), .int .i64 (doN s1 o), .int .i64 (doM s1 o), .string (L.bs (doT s1 o))] 45)) o
          simp only [Stp.val, doV, ansV] at hA
          have HA := hid hA
          clear hA
          refine HA.out.mono ?_
          rintro e w5 ⟨rfl, hm5, hf5⟩
          have HB5 := hid (HW.out.step HR4.out HF4.out hm5 hf5)
          have hna : ¬ S1 xM w4.heap.size := S1_not HM4.out (Nat.le_refl _)
          have a0 := ((At.new w4 #[.int .i64 (doE s1 o), .int .i64 (doN s1 o), .int .i64 (doM s1 o), .string (L.bs (doT s1 o))] 45 (o := 0) rfl).fr hf5 hna).c
          have a1 := ((At.new w4 #[.int .i64 (doE s1 o), .int .i64 (doN s1 o), .int .i64 (doM s1 o), .string (L.bs (doT s1 o))] 45 (o := 1) rfl).fr hf5 hna).c
          have a2 := ((At.new w4 #[.int .i64 (doE s1 o), .int .i64 (doN s1 o), .int .i64 (doM s1 o), .string (L.bs (doT s1 o))] 45 (o := 2) rfl).fr hf5 hna).c
          have a3 := ((At.new w4 #[.int .i64 (doE s1 o), .int .i64 (doN s1 o), .int .i64 (doM s1 o), .string (L.bs (doT s1 o))] 45 (o := 3) rfl).fr hf5 hna).c
          have hza : w4.heap.size < w5.heap.size := by have := hf5.size; simp at this; omega
          clear hm5 hf5 hna HA HR4 HF4 HM4 HP4 d0 d1 d2 d3 d4 d5
          generalize w4.heap.size = pA at *
          cases quiet
          · go_wp2_with fail
            have HB6 := hid (HB5.out.alloc (.cells #[.int .i64 (doE s1 o), .int .i64 (doN s1 o), .int .i64 (doM s1 o), .string (L.bs (doT s1 o))] 45))
            refine (show_any HB6.out.r).mono ?_
            rintro e w6 ⟨rfl, hf6⟩
            have HB7 := hid (HB6.out.quiet hf6)
            clear hf6 a0 a1 a2 a3
            go_wp2_with fail
            refine (mshow_any HB7.out.m).mono ?_
            rintro e w7 ⟨rfl, hf7⟩
            have HB8 := hid (HB7.out.quiet hf7)
            clear hf7
            go_wp2_with fail
            refine (check_any HB8.out.r).mono ?_
            rintro e w8 ⟨rfl, hf8⟩
            have HB9 := hid (HB8.out.quiet hf8)
            clear hf8
            go_wp2_with fail
            exact ⟨⟨k + 1, doS s1 o, xT, xC, xR, xM, by omega, rfl, rfl, by go_num, HB9.out⟩, by simp [intOf]; omega⟩
          · go_wp2_with fail
            exact ⟨⟨k + 1, doS s1 o, xT, xC, xR, xM, by omega, rfl, rfl, by go_num, HB5.out.alloc _⟩, by simp [intOf]; omega⟩
      · have hge : ¬ (k : Int) < 4398046511104 := hmx
        have HF := hid hB.f
        have hlL : ¬ (len : Int) < 4398046511104 := by omega
        clear hB
        go_wp2_with fail
        go_ret2
        exact ⟨⟨_, rfl⟩, HF.out⟩
    · have hge : ¬ (k : Int) < (len : Int) := by omega
      have HF := hid hB.f
      clear hB
      by_cases hL : (len : Int) < 4398046511104
      · go_wp2_with fail
        go_ret2
        exact ⟨⟨_, rfl⟩, HF.out⟩
      · go_wp2_with fail
        go_ret2
        exact ⟨⟨_, rfl⟩, HF.out⟩
end Go.Proofs.Qxb6500454a
