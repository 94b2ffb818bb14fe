/- The walk: both sides step by step. -/
import Derived.Test.Qxb6500451aDoM
namespace Go.Proofs.Qxb6500451a
open Go Go.RowKit
set_option maxRecDepth 100000
set_option maxHeartbeats 1600000
set_option linter.unusedSimpArgs false
set_option linter.unusedVariables false

/-- Step i of the script, cell by cell. -/
def StpAt (w : World) (b p : Nat) (o : Stp) : Prop :=
  w.cell? ⟨b, p, none⟩ = some (.int .i64 o.kind) ∧ w.cell? ⟨b, p + 1, none⟩ = some (.int .i64 o.a) ∧ w.cell? ⟨b, p + 2, none⟩ = some (.int .i64 o.b) ∧
  w.cell? ⟨b, p + 3, none⟩ = some (.int .i64 o.c) ∧ w.cell? ⟨b, p + 4, none⟩ = some (.string o.s) ∧ w.cell? ⟨b, p + 5, none⟩ = some (.string o.t)

theorem StpAt.frS {w w' : World} {b p : Nat} {o : Stp} {S : Nat → Prop} (h : StpAt w b p o) (hf : Fr S w w') (hn : ¬ S b) : StpAt w' b p o := by
  obtain ⟨h0, h1, h2, h3, h4, h5⟩ := h
  have hb : b < w.heap.size := World.block_lt_of_cell? (a := ⟨b, p, none⟩) w h0
  have e : ∀ q, w'.cell? ⟨b, q, none⟩ = w.cell? ⟨b, q, none⟩ := fun q => hf.cell (p := ⟨b, q, none⟩) hb hn
  exact ⟨by rw [e, h0], by rw [e, h1], by rw [e, h2], by rw [e, h3], by rw [e, h4], by rw [e, h5]⟩

/-- Both sides stand at one state. -/
structure Bo (w0 w : World) (F G : Nat → Prop) (bS bM : Nat) (f : DocF) (r : Int → Nat) (k : Nat) : Prop where
  s : SR w F bS f r
  m : MR w G bM f r
  n : ∀ i, F i → ¬ G i
  lF : ∀ i, F i → w0.heap.size ≤ i ∧ i < w.heap.size
  lG : ∀ i, G i → w0.heap.size ≤ i ∧ i < w.heap.size
  f0 : Fr (fun _ => False) w0 w
  c : ∀ j, r j ≤ k

theorem Bo.quiet {w0 w w' : World} {F G : Nat → Prop} {bS bM : Nat} {f : DocF} {r : Int → Nat} {k : Nat} (h : Bo w0 w F G bS bM f r k) (hf : Fr (fun _ => False) w w') : Bo w0 w' F G bS bM f r k :=
  ⟨h.s.frw hf (fun _ _ h => h), h.m.frw hf (fun _ _ h => h), h.n, fun i hi => ⟨(h.lF i hi).1, Nat.lt_of_lt_of_le (h.lF i hi).2 hf.size⟩, fun i hi => ⟨(h.lG i hi).1, Nat.lt_of_lt_of_le (h.lG i hi).2 hf.size⟩, h.f0.trans hf, h.c⟩

theorem Bo.askd {w0 w w' : World} {F G : Nat → Prop} {bS bM : Nat} {f : DocF} {r : Int → Nat} {k : Nat} (h : Bo w0 w F G bS bM f r k) (hm : MR w' G bM f r) (hf : Fr (fun i => i = bM) w w') : Bo w0 w' F G bS bM f r k :=
  ⟨h.s.frw hf (fun i hi e => h.n i hi (e ▸ h.m.gM)), hm, h.n, fun i hi => ⟨(h.lF i hi).1, Nat.lt_of_lt_of_le (h.lF i hi).2 hf.size⟩, fun i hi => ⟨(h.lG i hi).1, Nat.lt_of_lt_of_le (h.lG i hi).2 hf.size⟩,
    h.f0.then hf (fun i hi e => by have := (h.lG _ h.m.gM).1; omega), h.c⟩

theorem doR_le (f : DocF) (r : Int → Nat) (o : Stp) {k : Nat} (h : ∀ j, r j ≤ k) (j : Int) : doR f r o j ≤ k + 1 := by
  have := h j
  unfold doR putR incC
  split
  · split
    · show (if j = o.a then r j + 1 else r j) ≤ k + 1
      split <;> omega
    · omega
  · omega

/-- Behind the real side's step, and the box of its answer. -/
theorem Bo.real {w0 w w1 : World} {F G : Nat → Prop} {bS bM : Nat} {f : DocF} {r : Int → Nat} {k : Nat} (h : Bo w0 w F G bS bM f r k) (hf : Fr F w w1) (c : Obj) : MR (w1.alloc c) G bM f r ∧ (∀ i, G i → i < (w1.alloc c).heap.size) :=
  ⟨(h.m.frw hf (fun i hg hi => h.n i hi hg)).frw ((Fr.refl (fun _ => False) _).alloc _) (fun _ _ h => h), fun i hi => by have := (h.lG i hi).2; have := hf.size; simp; omega⟩

/-- Behind both sides' steps. -/
theorem Bo.step {w0 w w1 w2 : World} {F G : Nat → Prop} {bS bM : Nat} {f f' : DocF} {r r' : Int → Nat} {k : Nat} (h : Bo w0 w F G bS bM f r k) (hs : SR w1 (grow F w w1) bS f' r') (hf : Fr F w w1) {c : Obj} (hm : MR w2 (grow G (w1.alloc c) w2) bM f' r') (hf2 : Fr G (w1.alloc c) w2) (hc : ∀ j, r' j ≤ k + 1) :
    Bo w0 w2 (grow F w w1) (grow G (w1.alloc c) w2) bS bM f' r' (k + 1) := by
  have z1 := hf.size
  have z2 := hf2.size
  have z0 := h.f0.size
  simp only [World.size_alloc] at z2
  refine ⟨?_, hm, ?_, ?_, ?_, ?_, hc⟩
  · refine (hs.frw ((Fr.refl (fun _ => False) _).alloc c) (fun _ _ h => h)).frw hf2 (fun i hi hg => ?_)
    rcases hi with hi | hi
    · exact h.n i hi hg
    · have := (h.lG i hg).2; omega
  · rintro i (hi | hi) (hg | hg)
    · exact h.n i hi hg
    · have := (h.lF i hi).2; simp only [World.size_alloc] at hg; omega
    · have := (h.lG i hg).2; omega
    · simp only [World.size_alloc] at hg; omega
  · rintro i (hi | hi)
    · have := h.lF i hi; omega
    · omega
  · rintro i (hi | hi)
    · have := h.lG i hi; omega
    · simp only [World.size_alloc] at hi; omega
  · exact (((h.f0.then hf (fun i hi h' => by have := (h.lF i h').1; omega)).alloc c).then hf2 (fun i hi h' => by have := (h.lG i h').1; omega))

theorem bo_new {w w1 w2 : World} (hs : SR w1 (fun i => w.heap.size ≤ i) (w.heap.size + 3) noD (fun _ => 0)) (hf : Fr (fun _ => False) w w1) (hm : MR w2 (fun i => i = w1.heap.size) w1.heap.size noD (fun _ => 0)) (hf2 : Fr (fun _ => False) w1 w2) :
    Bo w w2 (fun i => w.heap.size ≤ i ∧ i < w1.heap.size) (fun i => i = w1.heap.size) (w.heap.size + 3) w1.heap.size noD (fun _ => 0) 0 := by
  have z1 := hf.size
  have z2 := hf2.size
  have z3 := hm.lt
  exact ⟨hs.bound.frw hf2 (fun _ _ h => h), hm, fun i hi e => by omega, fun i hi => by omega, fun i hi => by omega, hf.trans hf2, fun _ => Nat.le_refl _⟩

theorem walk_any {w : World} {b off len cap : Nat} (fs : Nat → Stp) (hb : b < w.heap.size) (hs : ∀ i, i < len → StpAt w b (off + i * 6) (fs i)) (hlen : len ≤ 9223372036854775807) (quiet : Bool) :
    Calls Try.prog 24 #[.slice (some ⟨b, off, none⟩) len cap, .bool quiet] w fun e w' => ∃ n : Int, e = .returned (.tuple #[.int .i64 (-1), .int .i64 n]) ∧ Fr (fun _ => False) w w' := by
  have hlen' : (len : Int) ≤ 9223372036854775807 := by omega
  have HS := hid hs
  clear hs
  go_enter Try.func24, Try.ntmps24
  go_wp2_with fail
  refine (new_any _).mono ?_
  rintro e w1 ⟨rfl, hs1, hf1⟩
  have HS1 := hid hs1
  have HF1 := hid hf1
  clear hs1 hf1
  go_wp2_with fail
  refine (mnew_any _).mono ?_
  rintro e w2 ⟨rfl, hm2, hf2⟩
  have HB := hid (bo_new HS1.out HF1.out hm2 hf2)
  clear hm2 hf2 HS1 HF1
  generalize w.heap.size + 3 = bS at *
  generalize w1.heap.size = bM at *
  go_wp2_with fail
  go_loopw [8] (fun i wr => ∃ (k : Nat) (F G : Nat → Prop) (f : DocF) (r : Int → Nat), k ≤ len ∧ i = .int .i64 k ∧ Bo w wr F G bS bM f r k) (fun i _ => len - (intOf i).toNat)
  case atStart => exact ⟨0, _, _, noD, _, by omega, rfl, HB.out⟩
  case round =>
    clear HB
    obtain ⟨k, F, G, f, r, hk, rfl, hB⟩ := hrel
    have HB := hid hB
    have hk0 : (0 : Int) ≤ (k : Int) := by omega
    by_cases hlt : k < len
    · have hltI : (k : Int) < (len : Int) := by omega
      by_cases hmx : (k : Int) < 4398046511104
      · have hst := (HS.out k hlt).frS hB.f0 (fun h => h)
        have HST := hid hst
        obtain ⟨c0, c1, c2, c3, c4, c5⟩ := hst
        have HRB : Hid (∀ j, r j < 4611686018427387904) := fun j => by have := hB.c j; omega
        have HBN : Hid (¬ F b ∧ ¬ G b) := ⟨fun h => by have := (hB.lF b h).1; omega, fun h => by have := (hB.lG b h).1; omega⟩
        clear hB
        generalize fs k = o at *
        go_wp2_with fail
        clear c0 c1 c2 c3 c4 c5
        have hA := do_any HB.out.s (fun i hi => (HB.out.lF i hi).2) HRB.out o
        simp only [Stp.val, doV, ansV] at hA
        have HA := hid hA
        clear hA
        refine HA.out.mono ?_
        rintro e w4 ⟨rfl, hs4, hf4⟩
        have HS4 := hid hs4
        have HF4 := hid hf4
        have hst := (HST.out.frS hf4 HBN.out.1).frS ((Fr.refl (fun _ => False) w4).alloc (.cells #[.int .i64 (doE f o), .int .i64 (doN f r o), .int .i64 (doM f o), .string (doT f r o)] 43)) (fun h => h)
        obtain ⟨c0, c1, c2, c3, c4, c5⟩ := hst
        clear hs4 hf4 HA
        go_wp2_with fail
        clear c0 c1 c2 c3 c4 c5
        have hrr := HB.out.real HF4.out (.cells #[.int .i64 (doE f o), .int .i64 (doN f r o), .int .i64 (doM f o), .string (doT f r o)] 43)
        have hA := dom_any hrr.1 hrr.2 HRB.out o
        have HNG : Hid (¬ G w4.heap.size) := fun h => by have := (HB.out.lG _ h).2; have := HF4.out.size; omega
        simp only [Stp.val, doV, ansV] at hA
        have HA := hid hA
        clear hA hrr
        refine HA.out.mono ?_
        rintro e w5 ⟨rfl, hm5, hf5⟩
        have HB5 := hid (HB.out.step HS4.out HF4.out hm5 hf5 (doR_le f r o HB.out.c))
        have a0 := ((At.new w4 #[.int .i64 (doE f o), .int .i64 (doN f r o), .int .i64 (doM f o), .string (doT f r o)] 43 (o := 0) rfl).fr hf5 HNG.out).c
        have a1 := ((At.new w4 #[.int .i64 (doE f o), .int .i64 (doN f r o), .int .i64 (doM f o), .string (doT f r o)] 43 (o := 1) rfl).fr hf5 HNG.out).c
        have a2 := ((At.new w4 #[.int .i64 (doE f o), .int .i64 (doN f r o), .int .i64 (doM f o), .string (doT f r o)] 43 (o := 2) rfl).fr hf5 HNG.out).c
        have a3 := ((At.new w4 #[.int .i64 (doE f o), .int .i64 (doN f r o), .int .i64 (doM f o), .string (doT f r o)] 43 (o := 3) rfl).fr hf5 HNG.out).c
        have hza : w4.heap.size < w5.heap.size := by have := hf5.size; simp at this; omega
        clear hm5 hf5 HA HS4 HF4 HNG
        generalize w4.heap.size = pA at *
        cases quiet
        · go_wp2_with fail
          have HB6 := hid (HB5.out.quiet ((Fr.refl (fun _ => False) w5).alloc (.cells #[.int .i64 (doE f o), .int .i64 (doN f r o), .int .i64 (doM f o), .string (doT f r o)] 43)))
          have HR6 : Hid (∀ j, doR f r o j < 4611686018427387904) := fun j => by have := HB5.out.c j; omega
          refine (show_any HB6.out.s HR6.out).mono ?_
          rintro e w6 ⟨rfl, hf6⟩
          have HB7 := hid (HB6.out.quiet hf6)
          clear hf6 a0 a1 a2 a3
          go_wp2_with fail
          refine (mshow_any HB7.out.m (fun i hi => (HB7.out.lG i hi).2) HR6.out).mono ?_
          rintro e w7 ⟨rfl, hm7, hf7⟩
          have HB8 := hid (HB7.out.askd hm7 hf7)
          clear hf7 hm7
          go_wp2_with fail
          refine (check_any HB8.out.s).mono ?_
          rintro e w8 ⟨rfl, hf8⟩
          have HB9 := hid (HB8.out.quiet hf8)
          clear hf8
          go_wp2_with fail
          exact ⟨⟨k + 1, _, _, doF f o, _, by omega, by go_num, HB9.out⟩, by simp [intOf]; omega⟩
        · go_wp2_with fail
          exact ⟨⟨k + 1, _, _, doF f o, _, by omega, by go_num, HB5.out.quiet ((Fr.refl (fun _ => False) w5).alloc _)⟩, by simp [intOf]; omega⟩
      · have hge : ¬ (k : Int) < 4398046511104 := hmx
        have HF := hid hB.f0
        have hlL : ¬ (len : Int) < 4398046511104 := by omega
        clear hB
        go_wp2_with fail
        go_ret2
        exact ⟨⟨_, rfl⟩, HF.out⟩
    · have hge : ¬ (k : Int) < (len : Int) := by omega
      have HF := hid hB.f0
      clear hB
      by_cases hL : (len : Int) < 4398046511104
      · go_wp2_with fail
        go_ret2
        exact ⟨⟨_, rfl⟩, HF.out⟩
      · go_wp2_with fail
        go_ret2
        exact ⟨⟨_, rfl⟩, HF.out⟩

theorem walk_none (w : World) (a : Option Addr) (cap : Nat) (quiet : Bool) :
    Calls Try.prog 24 #[.slice a 0 cap, .bool quiet] w fun e w' => ∃ n : Int, e = .returned (.tuple #[.int .i64 (-1), .int .i64 n]) ∧ Fr (fun _ => False) w w' := by
  go_enter Try.func24, Try.ntmps24
  go_wp2_with fail
  refine (new_any _).mono ?_
  rintro e w2 ⟨rfl, hr2, hf2⟩
  clear hr2
  go_wp2_with fail
  refine (mnew_any _).mono ?_
  rintro e w3 ⟨rfl, hm3, hf3⟩
  have HF := hid (hf2.trans hf3)
  clear hm3 hf2 hf3
  go_wp2_with fail
  refine wp_loop_rounds 1 ?_
  rw [rounds_succ]
  go_wp2_with fail
  go_ret2
  exact ⟨_, rfl, HF.out⟩
end Go.Proofs.Qxb6500451a
