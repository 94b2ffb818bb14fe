/- The gate's decoder: moves. -/
import Derived.Test.Qxb6500452aGMov
namespace Go.Proofs.Qxb6500452a
open Go Go.RowKit
set_option maxRecDepth 100000
set_option maxHeartbeats 1600000
set_option linter.unusedSimpArgs false
set_option linter.unusedVariables false

def movsP (s : ByteArray) : Nat → Nat → List Mv → PR (List Mv)
  | 0, p, _ => .error p
  | k + 1, p, l => match movP s p with
    | .error q => .error q
    | .ok x => match mustP s x.2 59 with
      | .error q => .error q
      | .ok y => if y.2 < s.size then movsP s k y.2 (l ++ [x.1]) else .ok (l ++ [x.1], y.2)

theorem movP_le {s : ByteArray} {p : Nat} {m : Mv} {p1 : Nat} (h : movP s p = .ok (m, p1)) : p + 3 ≤ p1 := by
  unfold movP at h
  rcases digP_cases s p with ⟨_, hd1⟩ | ⟨_, hd1⟩
  · rw [hd1] at h
    simp only at h
    rcases digP_cases s (p + 1) with ⟨_, hd2⟩ | ⟨_, hd2⟩
    · rw [hd2] at h
      simp only at h
      unfold numP at h
      rcases hd3 : dgB s (p + 1 + 1) with _ | _
      · rw [hd3] at h
        simp at h
      · rw [hd3] at h
        simp at h
        have := numL_le s 2 (dgV s (p + 1 + 1)) (p + 1 + 1 + 1)
        omega
    · rw [hd2] at h
      cases h
  · rw [hd1] at h
    cases h
theorem mustP_le {s : ByteArray} {p : Nat} {b : UInt8} {u : Unit} {p1 : Nat} (h : mustP s p b = .ok (u, p1)) : p1 = p + 1 := by
  unfold mustP at h
  split at h
  · cases h; rfl
  · cases h
/-- How much of the request is still to be read. -/
def meaP (C : Nat) (s : ByteArray) (_ : Act) (w : World) : Nat := s.size - (match w.cell? ⟨C, 1, none⟩ with | some x => (intOf x).toNat | none => 0)
theorem place_at {w : World} {C : Nat} {s : ByteArray} {p : Nat} {a : Act} (h : DC w C s p) : meaP C s a w = s.size - p := by
  unfold meaP
  rw [h.c1.c]
  simp [intOf]

theorem moves_any {w : World} {C : Nat} {s : ByteArray} {p : Nat} (h : DC w C s p) : Calls Try.prog 55 #[.pointer (some ⟨C, 0, none⟩)] w fun e w' =>
    (match movsP s 21 p [] with | .ok x => ∃ v, e = .returned v ∧ OwnM w' w.heap.size v x.1 ∧ DC w' C s x.2 | .error q => e = pan q) ∧ Fr (fun i => i = C) w w' := by
  have H := hid h
  have hC := h.lt
  clear h
  go_enter Try.func55, Try.ntmps55
  go_wp2_with fail
  refine wp_scope_jumps 0 (fun a' w' => ∃ (q : Nat) (l : List Mv) (k : Nat) (v : Value) (u4 u5 u6 u7 u8 u9 u10 u11 u12 u13 u14 u15 u16 u17 u18 u19 u20 u21 u22 : Value), a' = { tmps := #[.pointer (some ⟨C, 0, none⟩), undef, .slice none 0 0, v, u4, u5, u6, u7, u8, u9, u10, u11, u12, u13, u14, u15, u16, u17, u18, u19, u20, u21, u22, undef], defers := [] } ∧ DC w' C s q ∧ OwnM w' w.heap.size v l ∧ Fr (fun i => i = C) w w' ∧ movsP s k q l = movsP s 21 p [] ∧ 21 ≤ k + q ∧ l.length ≤ q ∧ q < s.size) (meaP C s) rfl ?_ ?_
  · obtain ⟨q, hq⟩ : ∃ q, q = p := ⟨_, rfl⟩
    obtain ⟨l, hl⟩ : ∃ l : List Mv, l = [] := ⟨_, rfl⟩
    obtain ⟨k, hk⟩ : ∃ k, k = 21 := ⟨_, rfl⟩
    obtain ⟨wq, hwq⟩ : ∃ wq, wq = w := ⟨_, rfl⟩
    have DCq : Hid (DC wq C s q) := by rw [hq, hwq]; exact H.out
    have OWq : Hid (OwnM wq w.heap.size (.slice none 0 0) l) := by rw [hl]; exact OwnM.nil _ _
    have FQ : Hid (Fr (fun i => i = C) w wq) := by rw [hwq]; exact Fr.refl _ _
    have HEQ : Hid (movsP s k q l = movsP s 21 p []) := by rw [hk, hq, hl]; rfl
    have HKQ : Hid (21 ≤ k + q) := by unfold Hid; omega
    have HLL : Hid (l.length ≤ q) := by rw [hl]; simp [Hid]
    go_wp2_with fail
    go_step3
    rw [← hwq]
    clear hq hl hk hwq H
    obtain ⟨k, rfl⟩ : ∃ k', k = k' + 1 := ⟨k - 1, by have := HKQ.out; have := DCq.out.le; have := DCq.out.sz; omega⟩
    have hCq : C < wq.heap.size := DCq.out.lt
    rcases hmv : movP s q with er | ⟨m, p1⟩
    · have HE : Hid (movsP s 21 p [] = .error er) := by
        unfold Hid
        rw [← HEQ.out]
        unfold movsP
        rw [hmv]
      go_wp2_with fail
      refine (move_any DCq.out).mono ?_
      rintro e w1 ⟨hp1, f1⟩
      rw [hmv] at hp1
      obtain rfl : e = pan er := hp1
      unfold pan
      go_wp2_with fail
      (try simp only [Exit.jump])
      refine ⟨rfl, ?_, FQ.out.trans f1⟩
      rw [HE.out]
      rfl
    · have hle1 := movP_le hmv
      go_upto_region 3 with (first | (go_at_call 54; refine (move_any DCq.out).mono ?_; rintro e w1 ⟨hp1, f1⟩; rw [hmv] at hp1; obtain ⟨rfl, D1⟩ := hp1; simp only [Mv.val]) | fail)
      have DC1 := hid D1
      have F1 := hid f1
      have O1 := hid (OWq.out.fr f1 (fun x hx e => by have := (OWq.out.lt hx).1; omega))
      have hC1 : C < w1.heap.size := DC1.out.lt
      have FA := hid ((Fr.refl (fun _ => False) w1).alloc (.cells #[.int .i64 m.f, .int .i64 m.t, .int .i64 m.a] 56))
      have AN : Hid (∀ x u, (#[.int .i64 m.f, .int .i64 m.t, .int .i64 m.a] : Array Value)[x]? = some u → At (w1.alloc (.cells #[.int .i64 m.f, .int .i64 m.t, .int .i64 m.a] 56)) w1.heap.size x u) := fun x u hu => At.new w1 _ _ hu
      have O2 := hid (O1.out.fr FA.out (fun _ _ h => h))
      have DC2 := hid (DC1.out.fr FA.out (fun h => h))
      have F2 := hid ((FQ.out.trans F1.out).alloc (.cells #[.int .i64 m.f, .int .i64 m.t, .int .i64 m.a] 56))
      clear D1 f1 DC1 O1 F1 FA
      generalize w1.alloc (.cells #[.int .i64 m.f, .int .i64 m.t, .int .i64 m.a] 56) = w2 at *
      generalize w1.heap.size = pm at *
      have m0 := (AN.out 0 _ rfl).c
      have m1 := (AN.out 1 _ rfl).c
      have m2 := (AN.out 2 _ rfl).c
      have hb2 : w.heap.size ≤ w2.heap.size := F2.out.size
      have hl2 : l.length ≤ 1000000 := by have := HLL.out; have := DCq.out.le; have := DCq.out.sz; omega
      go_upto_region 4 with (first
        | (at_builtin; refine wp_appM rfl rfl (v := .slice none 0 0) rfl (O2.out.fr ((Fr.refl (fun _ => False) _).alloc _) (fun _ _ h => h)) rfl (y := m) (At.new w2 #[.int .i64 m.f, .int .i64 m.t, .int .i64 m.a] _ rfl).c (At.new w2 #[.int .i64 m.f, .int .i64 m.t, .int .i64 m.a] _ rfl).c (At.new w2 #[.int .i64 m.f, .int .i64 m.t, .int .i64 m.a] _ rfl).c hl2 (by simp; omega) ?_; intro g cp w3 ow3 f3 hg3 hl3; go_frame)
        | go_in)
      have FB := (Fr.refl (fun _ => False) w2).alloc (.cells #[.int .i64 m.f, .int .i64 m.t, .int .i64 m.a] 56)
      have nC : ¬ (.slice none 0 0 : Value).ownBlock = some C := fun e => by have := (O2.out.lt e).1; omega
      have DC3 := hid ((DC2.out.fr FB (fun h => h)).fr f3 nC)
      have O3 := hid ow3
      have F3 : Hid (Fr (fun i => i = C) w w3) := (F2.out.trans (FB.mono (fun _ _ h => h.elim))).then f3 (fun i hi e => by have := (O2.out.lt e).1; omega)
      clear m0 m1 m2 AN O2 DC2 F2 FB f3 ow3 hg3 hl3 nC
      rcases hms : mustP s p1 59 with er | ⟨⟨⟩, q1⟩
      · have HE : Hid (movsP s 21 p [] = .error er) := by
          unfold Hid
          rw [← HEQ.out]
          unfold movsP
          rw [hmv]
          simp only
          rw [hms]
        go_wp2_with fail
        refine (must_any DC3.out 59).mono ?_
        rintro e w4 ⟨hp4, f4⟩
        rw [hms] at hp4
        obtain rfl : e = pan er := hp4
        unfold pan
        go_wp2_with fail
        (try simp only [Exit.jump])
        refine ⟨rfl, ?_, F3.out.trans f4⟩
        rw [HE.out]
        rfl
      · have hle2 := mustP_le hms
        have HLE : Hid (q + 4 ≤ q1) := by unfold Hid; omega
        go_upto_region 5 with (first | (go_at_call 77; refine (must_any DC3.out 59).mono ?_; rintro e w4 ⟨hp4, f4⟩; rw [hms] at hp4; obtain ⟨rfl, D4⟩ := hp4; unfold uV) | fail)
        have DC4 := hid D4.drew
        have O4 := hid ((O3.out.fr f4 (fun x hx e => by have := (O3.out.lt hx).1; omega)).fr ((Fr.refl (fun _ => False) w4).drew) (fun _ _ h => h))
        have F4 := hid (F3.out.trans f4).drew
        have c0 := D4.c0.c
        have c1 := D4.c1.c
        have hszI : (s.size : Int) ≤ 20 := by have := D4.sz; omega
        have hq0 : (0 : Int) ≤ (q1 : Int) := by omega
        clear D4 f4 O3 F3 DC3
        by_cases hz : q1 < s.size
        · have hzI : (q1 : Int) < (s.size : Int) := by omega
          have HS : Hid (movsP s k q1 (l ++ [m]) = movsP s 21 p []) := by
            unfold Hid
            rw [← HEQ.out]
            rw [show movsP s (k + 1) q l = (match movP s q with | .error q => .error q | .ok x => match mustP s x.2 59 with | .error q => .error q | .ok y => if y.2 < s.size then movsP s k y.2 (l ++ [x.1]) else .ok (l ++ [x.1], y.2)) from rfl]
            rw [hmv]
            simp only
            rw [hms]
            simp only
            rw [if_pos hz]
          go_upto_region 5 with fail
          go_region
          go_wp2_with fail
          go_step3
          exact ⟨rfl, q1, l ++ [m], k, _, _, _, _, _, _, _, _, _, _, _, _, _, _, _, _, _, _, _, _, rfl, DC4.out, O4.out, F4.out, HS.out, by have := HLE.out; have := HKQ.out; omega, by have := HLL.out; have := HLE.out; simp; omega, hz⟩
        · have hzI : ¬ (q1 : Int) < (s.size : Int) := by omega
          have HE : Hid (movsP s 21 p [] = .ok (l ++ [m], q1)) := by
            unfold Hid
            rw [← HEQ.out]
            rw [show movsP s (k + 1) q l = (match movP s q with | .error q => .error q | .ok x => match mustP s x.2 59 with | .error q => .error q | .ok y => if y.2 < s.size then movsP s k y.2 (l ++ [x.1]) else .ok (l ++ [x.1], y.2)) from rfl]
            rw [hmv]
            simp only
            rw [hms]
            simp only
            rw [if_neg hz]
          clear hz
          go_upto_region 5 with fail
          go_region
          go_wp2_with fail
          (try simp only [Exit.jump])
          go_ret
          refine ⟨?_, F4.out⟩
          rw [HE.out]
          exact ⟨_, rfl, O4.out, DC4.out⟩
  · rintro a' wq ⟨q, l, k, v, u4, u5, u6, u7, u8, u9, u10, u11, u12, u13, u14, u15, u16, u17, u18, u19, u20, u21, u22, rfl, dcq, owq, fq, heq, hkq, hll, hlt⟩
    have DCq := hid dcq
    have OWq := hid owq
    have FQ := hid fq
    have HEQ := hid heq
    have HKQ := hid hkq
    have HLL := hid hll
    have pl := place_at (a := { tmps := #[.pointer (some ⟨C, 0, none⟩), undef, .slice none 0 0, v, u4, u5, u6, u7, u8, u9, u10, u11, u12, u13, u14, u15, u16, u17, u18, u19, u20, u21, u22, undef], defers := [] }) dcq
    clear dcq owq fq heq hkq hll H
    obtain ⟨k, rfl⟩ : ∃ k', k = k' + 1 := ⟨k - 1, by have := HKQ.out; have := DCq.out.le; have := DCq.out.sz; omega⟩
    have hCq : C < wq.heap.size := DCq.out.lt
    rcases hmv : movP s q with er | ⟨m, p1⟩
    · have HE : Hid (movsP s 21 p [] = .error er) := by
        unfold Hid
        rw [← HEQ.out]
        unfold movsP
        rw [hmv]
      go_wp2_with fail
      refine (move_any DCq.out).mono ?_
      rintro e w1 ⟨hp1, f1⟩
      rw [hmv] at hp1
      obtain rfl : e = pan er := hp1
      unfold pan
      go_wp2_with fail
      (try simp only [Exit.jump])
      refine ⟨rfl, ?_, FQ.out.trans f1⟩
      rw [HE.out]
      rfl
    · have hle1 := movP_le hmv
      go_upto_region 3 with (first | (go_at_call 54; refine (move_any DCq.out).mono ?_; rintro e w1 ⟨hp1, f1⟩; rw [hmv] at hp1; obtain ⟨rfl, D1⟩ := hp1; simp only [Mv.val]) | fail)
      have DC1 := hid D1
      have F1 := hid f1
      have O1 := hid (OWq.out.fr f1 (fun x hx e => by have := (OWq.out.lt hx).1; omega))
      have hC1 : C < w1.heap.size := DC1.out.lt
      have FA := hid ((Fr.refl (fun _ => False) w1).alloc (.cells #[.int .i64 m.f, .int .i64 m.t, .int .i64 m.a] 56))
      have AN : Hid (∀ x u, (#[.int .i64 m.f, .int .i64 m.t, .int .i64 m.a] : Array Value)[x]? = some u → At (w1.alloc (.cells #[.int .i64 m.f, .int .i64 m.t, .int .i64 m.a] 56)) w1.heap.size x u) := fun x u hu => At.new w1 _ _ hu
      have O2 := hid (O1.out.fr FA.out (fun _ _ h => h))
      have DC2 := hid (DC1.out.fr FA.out (fun h => h))
      have F2 := hid ((FQ.out.trans F1.out).alloc (.cells #[.int .i64 m.f, .int .i64 m.t, .int .i64 m.a] 56))
      clear D1 f1 DC1 O1 F1 FA
      generalize w1.alloc (.cells #[.int .i64 m.f, .int .i64 m.t, .int .i64 m.a] 56) = w2 at *
      generalize w1.heap.size = pm at *
      have m0 := (AN.out 0 _ rfl).c
      have m1 := (AN.out 1 _ rfl).c
      have m2 := (AN.out 2 _ rfl).c
      have hb2 : w.heap.size ≤ w2.heap.size := F2.out.size
      have hl2 : l.length ≤ 1000000 := by have := HLL.out; have := DCq.out.le; have := DCq.out.sz; omega
      go_upto_region 4 with (first
        | (at_builtin; refine wp_appM rfl rfl (v := v) rfl (O2.out.fr ((Fr.refl (fun _ => False) _).alloc _) (fun _ _ h => h)) rfl (y := m) (At.new w2 #[.int .i64 m.f, .int .i64 m.t, .int .i64 m.a] _ rfl).c (At.new w2 #[.int .i64 m.f, .int .i64 m.t, .int .i64 m.a] _ rfl).c (At.new w2 #[.int .i64 m.f, .int .i64 m.t, .int .i64 m.a] _ rfl).c hl2 (by simp; omega) ?_; intro g cp w3 ow3 f3 hg3 hl3; go_frame)
        | go_in)
      have FB := (Fr.refl (fun _ => False) w2).alloc (.cells #[.int .i64 m.f, .int .i64 m.t, .int .i64 m.a] 56)
      have nC : ¬ (v : Value).ownBlock = some C := fun e => by have := (O2.out.lt e).1; omega
      have DC3 := hid ((DC2.out.fr FB (fun h => h)).fr f3 nC)
      have O3 := hid ow3
      have F3 : Hid (Fr (fun i => i = C) w w3) := (F2.out.trans (FB.mono (fun _ _ h => h.elim))).then f3 (fun i hi e => by have := (O2.out.lt e).1; omega)
      clear m0 m1 m2 AN O2 DC2 F2 FB f3 ow3 hg3 hl3 nC
      rcases hms : mustP s p1 59 with er | ⟨⟨⟩, q1⟩
      · have HE : Hid (movsP s 21 p [] = .error er) := by
          unfold Hid
          rw [← HEQ.out]
          unfold movsP
          rw [hmv]
          simp only
          rw [hms]
        go_wp2_with fail
        refine (must_any DC3.out 59).mono ?_
        rintro e w4 ⟨hp4, f4⟩
        rw [hms] at hp4
        obtain rfl : e = pan er := hp4
        unfold pan
        go_wp2_with fail
        (try simp only [Exit.jump])
        refine ⟨rfl, ?_, F3.out.trans f4⟩
        rw [HE.out]
        rfl
      · have hle2 := mustP_le hms
        have HLE : Hid (q + 4 ≤ q1) := by unfold Hid; omega
        go_upto_region 5 with (first | (go_at_call 77; refine (must_any DC3.out 59).mono ?_; rintro e w4 ⟨hp4, f4⟩; rw [hms] at hp4; obtain ⟨rfl, D4⟩ := hp4; unfold uV) | fail)
        have DC4 := hid D4.drew
        have O4 := hid ((O3.out.fr f4 (fun x hx e => by have := (O3.out.lt hx).1; omega)).fr ((Fr.refl (fun _ => False) w4).drew) (fun _ _ h => h))
        have F4 := hid (F3.out.trans f4).drew
        have c0 := D4.c0.c
        have c1 := D4.c1.c
        have hszI : (s.size : Int) ≤ 20 := by have := D4.sz; omega
        have hq0 : (0 : Int) ≤ (q1 : Int) := by omega
        clear D4 f4 O3 F3 DC3
        by_cases hz : q1 < s.size
        · have hzI : (q1 : Int) < (s.size : Int) := by omega
          have HS : Hid (movsP s k q1 (l ++ [m]) = movsP s 21 p []) := by
            unfold Hid
            rw [← HEQ.out]
            rw [show movsP s (k + 1) q l = (match movP s q with | .error q => .error q | .ok x => match mustP s x.2 59 with | .error q => .error q | .ok y => if y.2 < s.size then movsP s k y.2 (l ++ [x.1]) else .ok (l ++ [x.1], y.2)) from rfl]
            rw [hmv]
            simp only
            rw [hms]
            simp only
            rw [if_pos hz]
          go_upto_region 5 with fail
          go_region
          go_wp2_with fail
          go_step3
          exact ⟨rfl, ⟨q1, l ++ [m], k, _, _, _, _, _, _, _, _, _, _, _, _, _, _, _, _, _, _, _, _, rfl, DC4.out, O4.out, F4.out, HS.out, by have := HLE.out; have := HKQ.out; omega, by have := HLL.out; have := HLE.out; simp; omega, hz⟩, by rw [pl, place_at DC4.out]; have := HLE.out; omega⟩
        · have hzI : ¬ (q1 : Int) < (s.size : Int) := by omega
          have HE : Hid (movsP s 21 p [] = .ok (l ++ [m], q1)) := by
            unfold Hid
            rw [← HEQ.out]
            rw [show movsP s (k + 1) q l = (match movP s q with | .error q => .error q | .ok x => match mustP s x.2 59 with | .error q => .error q | .ok y => if y.2 < s.size then movsP s k y.2 (l ++ [x.1]) else .ok (l ++ [x.1], y.2)) from rfl]
            rw [hmv]
            simp only
            rw [hms]
            simp only
            rw [if_neg hz]
          clear hz
          go_upto_region 5 with fail
          go_region
          go_wp2_with fail
          (try simp only [Exit.jump])
          go_ret
          refine ⟨?_, F4.out⟩
          rw [HE.out]
          exact ⟨_, rfl, O4.out, DC4.out⟩

end Go.Proofs.Qxb6500452a
