import Derived.Test.Qxb6500454aTurn2
namespace Go.Proofs.Qxb6500454a
open Go Go.RowKit
set_option maxRecDepth 100000
set_option maxHeartbeats 1600000
set_option linter.unusedSimpArgs false
set_option linter.unusedVariables false

/-- The real side and the ghost stand at one state. -/
structure BothD (w0 w : World) (bT bC bR bD : Nat) (s : L.St) : Prop where
  r : RT w bT bC bR s
  m : DS w bD s
  n : ¬ S3 bT bC bR bD
  lT : w0.heap.size ≤ bT
  lC : w0.heap.size ≤ bC
  lR : w0.heap.size ≤ bR
  lM : w0.heap.size ≤ bD
  f : Fr (fun _ => False) w0 w

theorem S1d_not {w : World} {bD : Nat} {s : L.St} (h : DS w bD s) {i : Nat} (hi : w.heap.size ≤ i) : ¬ S1 bD i := by
  have := h.1.lt
  unfold S1
  omega

theorem bothD_new {w0 w w1 w2 : World} (hf : Fr (fun _ => False) w0 w) (hr : RT w1 w.heap.size (w.heap.size + 1) (w.heap.size + 2) L.init) (hf1 : Fr (fun _ => False) w w1) (hm : DS w2 w1.heap.size L.init) (hf2 : Fr (fun _ => False) w1 w2) :
    BothD w0 w2 w.heap.size (w.heap.size + 1) (w.heap.size + 2) w1.heap.size L.init := by
  have hl := hr.lt
  have hz := hf.size
  refine ⟨hr.fr hf2 (fun f => f) (fun f => f) (fun f => f), hm, by unfold S3; omega, by omega, by omega, by omega, by omega, (hf.trans hf1).trans hf2⟩

theorem BothD.alloc {w0 w : World} {bT bC bR bD : Nat} {s : L.St} (h : BothD w0 w bT bC bR bD s) (o : Obj) : BothD w0 (w.alloc o) bT bC bR bD s :=
  ⟨h.r.alloc o, h.m.alloc o, h.n, h.lT, h.lC, h.lR, h.lM, h.f.alloc o⟩

theorem BothD.apart {w0 w : World} {bT bC bR bD : Nat} {s : L.St} (h : BothD w0 w bT bC bR bD s) : ∀ i, i < w0.heap.size → S3 bT bC bR i → False := fun i hi hs => by
  have := h.lT; have := h.lC; have := h.lR; unfold S3 at hs; omega

theorem BothD.real {w0 w w' : World} {bT bC bR bD : Nat} {s : L.St} (h : BothD w0 w bT bC bR bD s) (hf : Fr (S3 bT bC bR) w w') : DS w' bD s ∧ Fr (fun _ => False) w0 w' :=
  ⟨h.m.fr hf h.n, h.f.then hf (fun i hi hs => h.apart i hi hs)⟩

theorem BothD.step {w0 w w' w'' : World} {bT bC bR bD : Nat} {s s' : L.St} (h : BothD w0 w bT bC bR bD s) (hr : RT w' bT bC bR s') (hf : Fr (S3 bT bC bR) w w') {o : Obj} (hm : DS w'' bD s') (hf' : Fr (S1 bD) (w'.alloc o) w'') : BothD w0 w'' bT bC bR bD s' := by
  have hn := h.n
  unfold S3 at hn
  refine ⟨(hr.alloc o).fr hf' (by unfold S1; omega) (by unfold S1; omega) (by unfold S1; omega), hm, h.n, h.lT, h.lC, h.lR, h.lM, ((h.real hf).2.alloc o).then hf' (fun i hi hs => ?_)⟩
  have := h.lM
  unfold S1 at hs
  omega

theorem BothD.quiet {w0 w w' : World} {bT bC bR bD : Nat} {s : L.St} (h : BothD w0 w bT bC bR bD s) (hf : Fr (fun _ => False) w w') : BothD w0 w' bT bC bR bD s :=
  ⟨h.r.fr hf (fun f => f) (fun f => f) (fun f => f), h.m.fr hf (fun f => f), h.n, h.lT, h.lC, h.lR, h.lM, h.f.trans hf⟩

theorem keep_any {w : World} {b off len cap : Nat} (f : Nat → Stp) (hb : b < w.heap.size) (hs : ∀ i, i < len → StpAt w b (off + i * 6) (f i)) (hlen : len ≤ 9223372036854775807) (quiet : Bool) :
    Calls Try.prog 8 #[.slice (some ⟨b, off, none⟩) len cap, .bool quiet] w fun e w' => e = .returned (.int .i64 (-1)) ∧ Fr (fun _ => False) w w' := by
  have hlen' : (len : Int) ≤ 9223372036854775807 := by omega
  have HS := hid hs
  clear hs
  go_enter Try.func8, Try.ntmps8
  go_wp2_with fail
  refine (ground_any _).mono ?_
  rintro e w1 ⟨rfl, hf1⟩
  go_wp2_with fail
  refine (new_any _).mono ?_
  rintro e w2 ⟨rfl, hr2, hf2⟩
  have HR2 := hid hr2
  clear hr2
  go_wp2_with fail
  refine (newdesk_any _).mono ?_
  rintro e w3 ⟨rfl, hm3, hf3⟩
  have HB := hid (bothD_new hf1 HR2.out hf2 hm3 hf3)
  clear hm3 hf1 hf2 hf3 HR2
  generalize w1.heap.size + 1 = bC at *
  generalize w1.heap.size + 2 = bR at *
  generalize w1.heap.size = bT at *
  generalize w2.heap.size = bM at *
  go_wp2_with fail
  go_loopw [5, 6, 7] (fun x m i wr => ∃ (k : Nat) (s : L.St) (bT bC bR bM : Nat), k ≤ len ∧ x = .pointer (some ⟨bT, 0, none⟩) ∧ m = .pointer (some ⟨bM, 0, none⟩) ∧ i = .int .i64 k ∧ BothD w wr bT bC bR bM s) (fun _ _ i _ => len - (intOf i).toNat)
  case atStart => exact ⟨0, L.init, bT, bC, bR, bM, by omega, rfl, rfl, rfl, HB.out⟩
  case round =>
    clear HB
    obtain ⟨k, s, xT, xC, xR, xM, hk, rfl, rfl, rfl, hB⟩ := hrel
    have HB := hid hB
    have hk0 : (0 : Int) ≤ (k : Int) := by omega
    by_cases hlt : k < len
    · have hltI : (k : Int) < (len : Int) := by omega
      by_cases hmx : (k : Int) < 4398046511104
      · have hst := (HS.out k hlt).fr hB.f hb
        obtain ⟨c0, c1, c2, c3, c4, c5⟩ := hst
        clear hB
        generalize f k = o at *
        by_cases h1 : o.kind = 1
        · have h1b : (o.kind == 1) = true := beq_iff_eq.2 h1
          have H1 := hid h1
          clear h1
          go_wp2_with fail
          refine (new_any _).mono ?_
          rintro e w2 ⟨rfl, hr2, hf2⟩
          have HR2 := hid hr2
          have HF2 := hid hf2
          clear hr2 hf2
          go_wp2_with fail
          refine (newdesk_any _).mono ?_
          rintro e W ⟨rfl, hm3, hf3⟩
          have HW := hid (bothD_new (HB.out.f.alloc _) HR2.out HF2.out hm3 hf3)
          have HPO := hid (((StpAt.new wr o).fr HF2.out (by simp)).fr hf3 (by have := HF2.out.size; simp at this; omega))
          have hzO : wr.heap.size < W.heap.size := by have := HF2.out.size; have := hf3.size; simp at *; omega
          have HN3 : Hid (¬ S3 (wr.heap.size + 1) (wr.heap.size + 1 + 1) (wr.heap.size + 1 + 2) wr.heap.size) := by unfold Hid S3; omega
          have HN1 : Hid (¬ S1 w2.heap.size wr.heap.size) := by unfold Hid S1; have := HF2.out.size; simp at this; omega
          have hwO : w.heap.size ≤ wr.heap.size := HB.out.f.size
          simp only [World.size_alloc] at HW
          clear c0 c1 c2 c3 c4 c5 hm3 hf3 HF2 HR2
          generalize wr.heap.size + 1 + 2 = yR at *
          generalize wr.heap.size + 1 + 1 = yC at *
          generalize wr.heap.size + 1 = yT at *
          generalize w2.heap.size = yM at *
          generalize wr.heap.size = pO at *
          obtain ⟨d0, d1, d2, d3, d4, d5⟩ := HPO.out
          simp only [Nat.zero_add] at d1 d2 d3 d4 d5
          go_wp2_with fail
          clear d0 d1 d2 d3 d4 d5
          have hA := do_any HW.out.r o
          simp only [Stp.val, doV, ansV] at hA
          have HA := hid hA
          clear hA
          refine HA.out.mono ?_
          rintro e w4 ⟨rfl, hr4, hf4⟩
          have hp4 := HPO.out.frS hf4 HN3.out
          have HF4 := hid hf4
          have HR4 := hid hr4
          have HM4 := hid (HW.out.real hf4).1
          obtain ⟨d0, d1, d2, d3, d4, d5⟩ := hp4
          simp only [Nat.zero_add] at d1 d2 d3 d4 d5
          have hz4 : pO < w4.heap.size := Nat.lt_of_lt_of_le hzO hf4.size
          clear hr4 hf4 HA
          go_wp2_with fail
          have hA := turn_any (HM4.out.alloc (.cells #[.int .i64 (doE L.init o), .int .i64 (doN L.init o), .int .i64 (doM L.init o), .string (L.bs (doT L.init o))] 45)) o
          simp only [Stp.val, doV, ansV] at hA
          have HA := hid hA
          clear hA
          refine HA.out.mono ?_
          rintro e w5 ⟨rfl, hm5, hf5⟩
          have HB5 := hid (HW.out.step HR4.out HF4.out hm5 hf5)
          clear hm5 hf5 HA HR4 HF4 HM4 d0 d1 d2 d3 d4 d5
          cases quiet
          · go_wp2_with fail
            refine (held_any HB5.out.r).mono ?_
            rintro e w6 ⟨rfl, hw6⟩
            subst hw6
            have cc := HB5.out.m.1.c.c
            go_wp2_with fail
            refine (show_any HB5.out.r).mono ?_
            rintro e w7 ⟨rfl, hf7⟩
            have HB7 := hid (HB5.out.quiet hf7)
            clear hf7 cc
            go_wp2_with fail
            refine (shown_any HB7.out.m).mono ?_
            rintro e w8 ⟨rfl, hf8⟩
            have HB8 := hid (HB7.out.quiet hf8)
            clear hf8
            go_wp2_with fail
            exact ⟨⟨k + 1, doS L.init o, yT, yC, yR, yM, by omega, rfl, rfl, by go_num, HB8.out⟩, by simp [intOf]; omega⟩
          · go_wp2_with fail
            exact ⟨⟨k + 1, doS L.init o, yT, yC, yR, yM, by omega, rfl, rfl, by go_num, HB5.out⟩, by simp [intOf]; omega⟩
        · have h1b : (o.kind == 1) = false := beq_eq_false_iff_ne.2 h1
          have H1 := hid h1
          clear h1
          go_wp2_with fail
          have HW := hid (HB.out.alloc (.cells #[.int .i64 o.kind, .int .i64 o.a, .int .i64 o.b, .int .i64 o.c, .string o.s, .string o.t] 43))
          have HPO := hid (StpAt.new wr o)
          have hzO : wr.heap.size < (wr.alloc (.cells #[.int .i64 o.kind, .int .i64 o.a, .int .i64 o.b, .int .i64 o.c, .string o.s, .string o.t] 43)).heap.size := by simp
          have HN3 := hid (S3_not HB.out.r (Nat.le_refl _))
          have HN1 := hid (S1d_not HB.out.m (Nat.le_refl _))
          have hwO : w.heap.size ≤ wr.heap.size := HB.out.f.size
          clear c0 c1 c2 c3 c4 c5
          generalize wr.alloc (.cells #[.int .i64 o.kind, .int .i64 o.a, .int .i64 o.b, .int .i64 o.c, .string o.s, .string o.t] 43) = W at *
          generalize wr.heap.size = pO at *
          obtain ⟨s1, hs1⟩ : ∃ s1, s1 = s := ⟨_, rfl⟩
          rw [← hs1] at HW
          clear hs1
          have hA := do_any HW.out.r o
          simp only [Stp.val, doV, ansV] at hA
          have HA := hid hA
          clear hA
          refine HA.out.mono ?_
          rintro e w4 ⟨rfl, hr4, hf4⟩
          have hp4 := HPO.out.frS hf4 HN3.out
          have HF4 := hid hf4
          have HR4 := hid hr4
          have HM4 := hid (HW.out.real hf4).1
          obtain ⟨d0, d1, d2, d3, d4, d5⟩ := hp4
          simp only [Nat.zero_add] at d1 d2 d3 d4 d5
          have hz4 : pO < w4.heap.size := Nat.lt_of_lt_of_le hzO hf4.size
          clear hr4 hf4 HA
          go_wp2_with fail
          have hA := turn_any (HM4.out.alloc (.cells #[.int .i64 (doE s1 o), .int .i64 (doN s1 o), .int .i64 (doM s1 o), .string (L.bs (doT s1 o))] 45)) o
          simp only [Stp.val, doV, ansV] at hA
          have HA := hid hA
          clear hA
          refine HA.out.mono ?_
          rintro e w5 ⟨rfl, hm5, hf5⟩
          have HB5 := hid (HW.out.step HR4.out HF4.out hm5 hf5)
          clear hm5 hf5 HA HR4 HF4 HM4 d0 d1 d2 d3 d4 d5
          cases quiet
          · go_wp2_with fail
            refine (held_any HB5.out.r).mono ?_
            rintro e w6 ⟨rfl, hw6⟩
            subst hw6
            have cc := HB5.out.m.1.c.c
            go_wp2_with fail
            refine (show_any HB5.out.r).mono ?_
            rintro e w7 ⟨rfl, hf7⟩
            have HB7 := hid (HB5.out.quiet hf7)
            clear hf7 cc
            go_wp2_with fail
            refine (shown_any HB7.out.m).mono ?_
            rintro e w8 ⟨rfl, hf8⟩
            have HB8 := hid (HB7.out.quiet hf8)
            clear hf8
            go_wp2_with fail
            exact ⟨⟨k + 1, doS s1 o, xT, xC, xR, xM, by omega, rfl, rfl, by go_num, HB8.out⟩, by simp [intOf]; omega⟩
          · go_wp2_with fail
            exact ⟨⟨k + 1, doS s1 o, xT, xC, xR, xM, by omega, rfl, rfl, by go_num, HB5.out⟩, by simp [intOf]; omega⟩
      · have hge : ¬ (k : Int) < 4398046511104 := hmx
        have HF := hid hB.f
        clear hB
        go_wp2_with fail
        go_ret
        exact ⟨rfl, HF.out⟩
    · have hge : ¬ (k : Int) < (len : Int) := by omega
      have HF := hid hB.f
      clear hB
      go_wp2_with fail
      go_ret
      exact ⟨rfl, HF.out⟩
end Go.Proofs.Qxb6500454a
