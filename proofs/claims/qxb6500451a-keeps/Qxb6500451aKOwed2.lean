/- Keeps: Owed, of the kinds that loop. -/
import Derived.Test.Qxb6500451aKOwed
namespace Go.Proofs.Qxb6500451a
open Go Go.RowKit
set_option maxRecDepth 100000
set_option maxHeartbeats 1600000
set_option linter.unusedSimpArgs false
set_option linter.unusedVariables false

theorem owed_box (w : World) (k a b c : Int) (os ot : ByteArray) : Box ((w.alloc (.cells #[.int .i64 k, .int .i64 a, .int .i64 b, .int .i64 c, .string os, .string ot] 36)).alloc (.cells #[.int .i64 0, .int .i64 0, .int .i64 0, .string ⟨#[]⟩] 43)) (w.heap.size + 1) := by
  have := Box.new (w.alloc (.cells #[.int .i64 k, .int .i64 a, .int .i64 b, .int .i64 c, .string os, .string ot] 36))
  simp only [World.size_alloc] at this
  exact this
theorem owed_stp (w : World) (k a b c : Int) (os ot : ByteArray) : At ((w.alloc (.cells #[.int .i64 k, .int .i64 a, .int .i64 b, .int .i64 c, .string os, .string ot] 36)).alloc (.cells #[.int .i64 0, .int .i64 0, .int .i64 0, .string ⟨#[]⟩] 43)) w.heap.size 1 (.int .i64 a) := (At.new w _ _ rfl).alloc _

theorem owed_drop {w : World} {D E P : Nat} {f : DocF} {r : Int → Nat} (hl : LkAt w D E f) (hp : PutsAt w P r) (hok : OkF f) (hrr : ∀ k, 1 ≤ r k → 1 ≤ k ∧ k ≤ 9) (o : Stp) (hk : o.kind = 4) :
    Calls Try.prog 19 #[o.val, .slice (some ⟨D, 0, none⟩) 10 10, .slice (some ⟨E, 0, none⟩) 10 10, .int .i64 (nDocs f : Int), .slice (some ⟨P, 0, none⟩) 11 11] w fun e w' => e = .returned (doV f r o) ∧ Fr (fun _ => False) w w' := by
  obtain ⟨kind, a, b, c, os, ot⟩ := o
  simp only at hk
  subst hk
  have hV : doV f r ⟨4, a, b, c, os, ot⟩ = ansV 0 (cnt f a : Int) 0 ⟨#[]⟩ := by simp [doV, doE, doN, doM, doT]
  rw [hV]
  clear hV
  simp only [Stp.val, ansV]
  have HL := hid hl
  have HP := hid hp
  have HOK := hid hok
  have HRR := hid hrr
  have fW : ∀ c1 c2, Fr (fun _ => False) w ((w.alloc c1).alloc c2) := fun c1 c2 => ((Fr.refl _ _).alloc _).alloc _
  clear hl hp hok hrr
  have BX := hid (owed_box w 4 a b c os ot)
  have SX := hid (owed_stp w 4 a b c os ot)
  have LX := hid (HL.out.fr (fW (.cells #[.int .i64 4, .int .i64 a, .int .i64 b, .int .i64 c, .string os, .string ot] 36) (.cells #[.int .i64 0, .int .i64 0, .int .i64 0, .string ⟨#[]⟩] 43)) (fun h => h) (fun h => h))
  have FX := hid (fW (.cells #[.int .i64 4, .int .i64 a, .int .i64 b, .int .i64 c, .string os, .string ot] 36) (.cells #[.int .i64 0, .int .i64 0, .int .i64 0, .string ⟨#[]⟩] 43))
  have HPA : Hid (w.heap.size ≤ w.heap.size + 1) := Nat.le_succ _
  go_enter Try.func19, Try.ntmps19
  go_wp2_with (first
    | (go_at_call 37; refine (named_any (HL.out.fr (fW _ _) (fun h => h) (fun h => h)) a).mono ?_; rintro e w1 ⟨rfl, hw1⟩; obtain rfl := hw1.symm)
    | fail)
  generalize (w.alloc (.cells #[.int .i64 4, .int .i64 a, .int .i64 b, .int .i64 c, .string os, .string ot] 36)).alloc (.cells #[.int .i64 0, .int .i64 0, .int .i64 0, .string ⟨#[]⟩] 43) = w1 at *
  generalize w.heap.size + 1 = pa at *
  obtain ⟨po, hpo⟩ : ∃ po, po = w.heap.size := ⟨_, rfl⟩
  rw [← hpo] at SX
  try rw [← hpo]
  have HPO := hid hpo
  clear fW hpo HL
  go_loopw [14, 15] (fun n i wr => ∃ k : Nat, 1 ≤ k ∧ k ≤ 10 ∧ i = .int .i64 k ∧ n = .int .i64 (cTo f a k : Nat) ∧ Fr (fun _ => False) w1 wr) (fun _ i _ => 10 - (intOf i).toNat)
  case atStart => exact ⟨1, by omega, by omega, rfl, rfl, Fr.refl _ _⟩
  case round =>
    obtain ⟨k, hk1, hk2, rfl, rfl, fr⟩ := hrel
    have FR := hid fr
    have hk0 : (0 : Int) ≤ (k : Int) := by omega
    by_cases hlt : k < 10
    · have hltI : (k : Int) ≤ 9 := by omega
      have hltI2 : (k : Int) < 10 := by omega
      have hn9 : (cTo f a k : Int) ≤ 9 := by have := cTo_le f a k; omega
      have HS := hid (cTo_step (f := f) (g := a) hk1 hlt)
      have ce := ((LX.out.e k hk1 hlt).fr fr (fun h => h)).c
      have cg := ((LX.out.d1 k hk1 hlt).fr fr (fun h => h)).c
      have cs := (SX.out.fr fr (fun h => h)).c
      clear fr
      by_cases he : (getP f k).e = 0
      · have heb : ((getP f k).e == 0) = true := by simp [he]
        by_cases hgg : (getP f k).g = a
        · have hgb : ((getP f k).g == a) = true := by simp [hgg]
          rw [if_pos ⟨he, hgg⟩] at HS
          generalize getP f k = q at *
          clear he hgg
          go_wp2_with fail
          go_quiet (fail)
          go_wp2_with fail
          exact ⟨⟨k + 1, by omega, by omega, by go_num, by rw [HS.out]; rfl, FR.out.drewN _⟩, by simp [intOf]; omega⟩
        · have hgb : ((getP f k).g == a) = false := by simp [hgg]
          rw [if_neg (fun h => hgg h.2)] at HS
          generalize getP f k = q at *
          clear he hgg
          go_wp2_with fail
          go_quiet (fail)
          go_wp2_with fail
          exact ⟨⟨k + 1, by omega, by omega, by go_num, by rw [HS.out]; rfl, FR.out.drewN _⟩, by simp [intOf]; omega⟩
      · have heb : ((getP f k).e == 0) = false := by simp [he]
        rw [if_neg (fun h => he h.1)] at HS
        generalize getP f k = q at *
        clear he
        go_wp2_with fail
        go_quiet (fail)
        go_wp2_with fail
        exact ⟨⟨k + 1, by omega, by omega, by go_num, by rw [HS.out]; rfl, FR.out.drewN _⟩, by simp [intOf]; omega⟩
    · have hltI : ¬ (k : Int) ≤ 9 := by omega
      obtain rfl : k = 10 := by omega
      rw [cTo_ten]
      have B := hid (BX.out.fr fr (fun h => h))
      clear fr
      have c0 := B.out.a0.c
      have c1 := B.out.a1.c
      have c2 := B.out.a2.c
      have c3 := B.out.a3.c
      have f0 := B.out.a0.f
      have f1 := B.out.a1.f
      have f2 := B.out.a2.f
      have f3 := B.out.a3.f
      go_wp2_with fail
      refine retA Try.results19 rfl rfl B.out.a0.has B.out.a1.has B.out.a2.has B.out.a3.has ⟨rfl, (FX.out.trans FR.out).then (box_fr _ _ _ _ _ _) (fun i hi e => by have := HPA.out; omega)⟩

theorem owed_ing {w : World} {D E P : Nat} {f : DocF} {r : Int → Nat} (hl : LkAt w D E f) (hp : PutsAt w P r) (hok : OkF f) (hrr : ∀ k, 1 ≤ r k → 1 ≤ k ∧ k ≤ 9) (o : Stp) (hk : o.kind = 7) :
    Calls Try.prog 19 #[o.val, .slice (some ⟨D, 0, none⟩) 10 10, .slice (some ⟨E, 0, none⟩) 10 10, .int .i64 (nDocs f : Int), .slice (some ⟨P, 0, none⟩) 11 11] w fun e w' => e = .returned (doV f r o) ∧ Fr (fun _ => False) w w' := by
  obtain ⟨kind, a, b, c, os, ot⟩ := o
  simp only at hk
  subst hk
  have hV : doV f r ⟨7, a, b, c, os, ot⟩ = ansV 0 (cnt f a : Int) 0 ⟨#[]⟩ := by simp [doV, doE, doN, doM, doT]
  rw [hV]
  clear hV
  simp only [Stp.val, ansV]
  have HL := hid hl
  have HP := hid hp
  have HOK := hid hok
  have HRR := hid hrr
  have fW : ∀ c1 c2, Fr (fun _ => False) w ((w.alloc c1).alloc c2) := fun c1 c2 => ((Fr.refl _ _).alloc _).alloc _
  clear hl hp hok hrr
  have BX := hid (owed_box w 7 a b c os ot)
  have SX := hid (owed_stp w 7 a b c os ot)
  have LX := hid (HL.out.fr (fW (.cells #[.int .i64 7, .int .i64 a, .int .i64 b, .int .i64 c, .string os, .string ot] 36) (.cells #[.int .i64 0, .int .i64 0, .int .i64 0, .string ⟨#[]⟩] 43)) (fun h => h) (fun h => h))
  have FX := hid (fW (.cells #[.int .i64 7, .int .i64 a, .int .i64 b, .int .i64 c, .string os, .string ot] 36) (.cells #[.int .i64 0, .int .i64 0, .int .i64 0, .string ⟨#[]⟩] 43))
  have HPA : Hid (w.heap.size ≤ w.heap.size + 1) := Nat.le_succ _
  go_enter Try.func19, Try.ntmps19
  go_wp2_with (first
    | (go_at_call 37; refine (named_any (HL.out.fr (fW _ _) (fun h => h) (fun h => h)) a).mono ?_; rintro e w1 ⟨rfl, hw1⟩; obtain rfl := hw1.symm)
    | fail)
  generalize (w.alloc (.cells #[.int .i64 7, .int .i64 a, .int .i64 b, .int .i64 c, .string os, .string ot] 36)).alloc (.cells #[.int .i64 0, .int .i64 0, .int .i64 0, .string ⟨#[]⟩] 43) = w1 at *
  generalize w.heap.size + 1 = pa at *
  obtain ⟨po, hpo⟩ : ∃ po, po = w.heap.size := ⟨_, rfl⟩
  rw [← hpo] at SX
  try rw [← hpo]
  have HPO := hid hpo
  clear fW hpo HL
  go_loopw [14, 15] (fun n i wr => ∃ k : Nat, 1 ≤ k ∧ k ≤ 10 ∧ i = .int .i64 k ∧ n = .int .i64 (cTo f a k : Nat) ∧ Fr (fun _ => False) w1 wr) (fun _ i _ => 10 - (intOf i).toNat)
  case atStart => exact ⟨1, by omega, by omega, rfl, rfl, Fr.refl _ _⟩
  case round =>
    obtain ⟨k, hk1, hk2, rfl, rfl, fr⟩ := hrel
    have FR := hid fr
    have hk0 : (0 : Int) ≤ (k : Int) := by omega
    by_cases hlt : k < 10
    · have hltI : (k : Int) ≤ 9 := by omega
      have hltI2 : (k : Int) < 10 := by omega
      have hn9 : (cTo f a k : Int) ≤ 9 := by have := cTo_le f a k; omega
      have HS := hid (cTo_step (f := f) (g := a) hk1 hlt)
      have ce := ((LX.out.e k hk1 hlt).fr fr (fun h => h)).c
      have cg := ((LX.out.d1 k hk1 hlt).fr fr (fun h => h)).c
      have cs := (SX.out.fr fr (fun h => h)).c
      clear fr
      by_cases he : (getP f k).e = 0
      · have heb : ((getP f k).e == 0) = true := by simp [he]
        by_cases hgg : (getP f k).g = a
        · have hgb : ((getP f k).g == a) = true := by simp [hgg]
          rw [if_pos ⟨he, hgg⟩] at HS
          generalize getP f k = q at *
          clear he hgg
          go_wp2_with fail
          go_quiet (fail)
          go_wp2_with fail
          exact ⟨⟨k + 1, by omega, by omega, by go_num, by rw [HS.out]; rfl, FR.out.drewN _⟩, by simp [intOf]; omega⟩
        · have hgb : ((getP f k).g == a) = false := by simp [hgg]
          rw [if_neg (fun h => hgg h.2)] at HS
          generalize getP f k = q at *
          clear he hgg
          go_wp2_with fail
          go_quiet (fail)
          go_wp2_with fail
          exact ⟨⟨k + 1, by omega, by omega, by go_num, by rw [HS.out]; rfl, FR.out.drewN _⟩, by simp [intOf]; omega⟩
      · have heb : ((getP f k).e == 0) = false := by simp [he]
        rw [if_neg (fun h => he h.1)] at HS
        generalize getP f k = q at *
        clear he
        go_wp2_with fail
        go_quiet (fail)
        go_wp2_with fail
        exact ⟨⟨k + 1, by omega, by omega, by go_num, by rw [HS.out]; rfl, FR.out.drewN _⟩, by simp [intOf]; omega⟩
    · have hltI : ¬ (k : Int) ≤ 9 := by omega
      obtain rfl : k = 10 := by omega
      rw [cTo_ten]
      have B := hid (BX.out.fr fr (fun h => h))
      clear fr
      have c0 := B.out.a0.c
      have c1 := B.out.a1.c
      have c2 := B.out.a2.c
      have c3 := B.out.a3.c
      have f0 := B.out.a0.f
      have f1 := B.out.a1.f
      have f2 := B.out.a2.f
      have f3 := B.out.a3.f
      go_wp2_with fail
      refine retA Try.results19 rfl rfl B.out.a0.has B.out.a1.has B.out.a2.has B.out.a3.has ⟨rfl, (FX.out.trans FR.out).then (box_fr _ _ _ _ _ _) (fun i hi e => by have := HPA.out; omega)⟩

theorem owed_ids {w : World} {D E P : Nat} {f : DocF} {r : Int → Nat} (hl : LkAt w D E f) (hp : PutsAt w P r) (hok : OkF f) (hrr : ∀ k, 1 ≤ r k → 1 ≤ k ∧ k ≤ 9) (o : Stp) (hk : o.kind = 6) :
    Calls Try.prog 19 #[o.val, .slice (some ⟨D, 0, none⟩) 10 10, .slice (some ⟨E, 0, none⟩) 10 10, .int .i64 (nDocs f : Int), .slice (some ⟨P, 0, none⟩) 11 11] w fun e w' => e = .returned (doV f r o) ∧ Fr (fun _ => False) w w' := by
  obtain ⟨kind, a, b, c, os, ot⟩ := o
  simp only at hk
  subst hk
  have hV : doV f r ⟨6, a, b, c, os, ot⟩ = ansV 0 (nDocs f : Int) 0 (bs (ints (ids f))) := by simp [doV, doE, doN, doM, doT]
  rw [hV]
  clear hV
  simp only [Stp.val, ansV]
  have HL := hid hl
  have HP := hid hp
  have HOK := hid hok
  have HRR := hid hrr
  have fW : ∀ c1 c2, Fr (fun _ => False) w ((w.alloc c1).alloc c2) := fun c1 c2 => ((Fr.refl _ _).alloc _).alloc _
  clear hl hp hok hrr
  have BX := hid (owed_box w 6 a b c os ot)
  have SX := hid (owed_stp w 6 a b c os ot)
  have LX := hid (HL.out.fr (fW (.cells #[.int .i64 6, .int .i64 a, .int .i64 b, .int .i64 c, .string os, .string ot] 36) (.cells #[.int .i64 0, .int .i64 0, .int .i64 0, .string ⟨#[]⟩] 43)) (fun h => h) (fun h => h))
  have FX := hid (fW (.cells #[.int .i64 6, .int .i64 a, .int .i64 b, .int .i64 c, .string os, .string ot] 36) (.cells #[.int .i64 0, .int .i64 0, .int .i64 0, .string ⟨#[]⟩] 43))
  have HPA : Hid (w.heap.size ≤ w.heap.size + 1) := Nat.le_succ _
  go_enter Try.func19, Try.ntmps19
  go_wp2_with (first
    | (go_at_call 37; refine (named_any (HL.out.fr (fW _ _) (fun h => h) (fun h => h)) a).mono ?_; rintro e w1 ⟨rfl, hw1⟩; obtain rfl := hw1.symm)
    | fail)
  generalize (w.alloc (.cells #[.int .i64 6, .int .i64 a, .int .i64 b, .int .i64 c, .string os, .string ot] 36)).alloc (.cells #[.int .i64 0, .int .i64 0, .int .i64 0, .string ⟨#[]⟩] 43) = w1 at *
  generalize w.heap.size + 1 = pa at *
  obtain ⟨po, hpo⟩ : ∃ po, po = w.heap.size := ⟨_, rfl⟩
  rw [← hpo] at SX
  try rw [← hpo]
  have HPO := hid hpo
  clear fW hpo HL
  obtain ⟨N, hN⟩ : ∃ N, N = w1.heap.size := ⟨_, rfl⟩
  have HN := hid hN
  clear hN
  go_loopw [12, 13] (fun v i wr => ∃ k : Nat, 1 ≤ k ∧ k ≤ 10 ∧ i = .int .i64 k ∧ OwnI wr N v (iTo f k) ∧ (iTo f k = [] → v = .slice none 0 0) ∧ Fr (fun _ => False) w1 wr) (fun _ i _ => 10 - (intOf i).toNat)
  case atStart => exact ⟨1, by omega, by omega, rfl, OwnI.nil _ _, fun _ => rfl, Fr.refl _ _⟩
  case round =>
    obtain ⟨k, hk1, hk2, rfl, ow, hnl, fr⟩ := hrel
    have FR := hid fr
    have OI := hid ow
    have NL := hid hnl
    have hk0 : (0 : Int) ≤ (k : Int) := by omega
    have hsz := fr.size
    clear ow hnl
    by_cases hlt : k < 10
    · have hltI : (k : Int) ≤ 9 := by omega
      have hltI2 : (k : Int) < 10 := by omega
      have HS := hid (iTo_step (f := f) hk1 hlt)
      have hlen := iTo_len f k
      have ce := ((LX.out.e k hk1 hlt).fr fr (fun h => h)).c
      clear fr
      by_cases he : (getP f k).e = 0
      · have heb : ((getP f k).e == 0) = true := by simp [he]
        rw [if_pos he] at HS
        generalize getP f k = q at *
        clear he
        go_wp2_with (first
          | (at_builtin; refine wp_appI rfl rfl (v := u12) rfl (OI.out.fr ((Fr.refl (fun _ => False) _).alloc _) (fun _ _ h => h)) rfl (y := (k : Int)) (At.new wr #[.int .i64 (k : Int)] _ rfl).c (by omega) (by simp; have := HN.out; omega) ?_; intro g cp w3 ow3 f3 hg3 hl3; go_frame)
          | go_in)
        rw [← HS.out] at ow3
        refine ⟨⟨k + 1, by omega, by omega, by go_num, ?_, fun h => ?_, (FR.out.alloc _).then f3 (fun i hi e => by have := (OI.out.lt e).1; have := HN.out; omega)⟩, by simp [intOf]; omega⟩
        · have e : (iTo f (k + 1)).length = (iTo f k).length + 1 := by rw [HS.out]; simp
          exact ow3
        · rw [HS.out] at h; simp at h
      · have heb : ((getP f k).e == 0) = false := by simp [he]
        rw [if_neg he, List.append_nil] at HS
        generalize getP f k = q at *
        clear he
        go_wp2_with fail
        exact ⟨⟨k + 1, by omega, by omega, by go_num, by rw [HS.out]; exact OI.out, by rw [HS.out]; exact NL.out, FR.out⟩, by simp [intOf]; omega⟩
    · have hltI : ¬ (k : Int) ≤ 9 := by omega
      obtain rfl : k = 10 := by omega
      have OI' := OI.out
      have NL' := NL.out
      rw [iTo_ten] at OI' NL'
      have OJ := hid OI'
      have NJ := hid NL'
      have B0 := hid (BX.out.fr fr (fun h => h))
      clear OI' NL' OI NL fr
      go_wp2_with fail
      have hi64 : ∀ i ∈ ids f, I64 i := fun i hi => by
        have := nine_mem (List.mem_filter.1 hi).1
        unfold I64; omega
      have hl := list_any OJ.out hi64 NJ.out (by rw [ids_len]; have := nDocs_le f; omega)
      simp only [ansV] at hl
      rw [ids_len] at hl
      refine hl.mono ?_
      clear hl hi64
      rintro e w2 ⟨rfl, hf2⟩
      have hzB : pa < N := by have := HN.out; have := BX.out.a0.lt; omega
      have B := hid (B0.out.fr hf2 (fun h => by omega))
      have HF := hid ((FX.out.trans FR.out).then hf2 (fun i hi h => by have := HN.out; have := FX.out.size; omega))
      clear hf2 B0 OJ NJ
      have c0 := B.out.a0.c
      have c1 := B.out.a1.c
      have c2 := B.out.a2.c
      have c3 := B.out.a3.c
      have f0 := B.out.a0.f
      have f1 := B.out.a1.f
      have f2 := B.out.a2.f
      have f3 := B.out.a3.f
      go_wp2_with fail
      refine retA Try.results19 rfl rfl B.out.a0.has B.out.a1.has B.out.a2.has B.out.a3.has ⟨rfl, HF.out.then (box_fr _ _ _ _ _ _) (fun i hi e => by have := HPA.out; omega)⟩

theorem owed_any {w : World} {D E P : Nat} {f : DocF} {r : Int → Nat} (hl : LkAt w D E f) (hp : PutsAt w P r) (hok : OkF f) (hrr : ∀ k, 1 ≤ r k → 1 ≤ k ∧ k ≤ 9) (o : Stp) (h1 : 1 ≤ o.kind) (h2 : o.kind ≤ 11) (h3 : o.kind ≠ 9) :
    Calls Try.prog 19 #[o.val, .slice (some ⟨D, 0, none⟩) 10 10, .slice (some ⟨E, 0, none⟩) 10 10, .int .i64 (nDocs f : Int), .slice (some ⟨P, 0, none⟩) 11 11] w fun e w' => e = .returned (doV f r o) ∧ Fr (fun _ => False) w w' := by
  by_cases k1 : o.kind = 1
  · exact owed_put hl hp hok hrr o k1
  by_cases k2 : o.kind = 2
  · exact owed_get hl hp hok hrr o k2
  by_cases k3 : o.kind = 3
  · exact owed_del hl hp hok hrr o k3
  by_cases k4 : o.kind = 4
  · exact owed_drop hl hp hok hrr o k4
  by_cases k5 : o.kind = 5
  · exact owed_len hl hp hok hrr o k5
  by_cases k6 : o.kind = 6
  · exact owed_ids hl hp hok hrr o k6
  by_cases k7 : o.kind = 7
  · exact owed_ing hl hp hok hrr o k7
  by_cases k8 : o.kind = 8
  · exact owed_revs hl hp hok hrr o k8
  by_cases k10 : o.kind = 10
  · exact owed_check hl hp hok hrr o k10
  by_cases k11 : o.kind = 11
  · exact owed_reset hl hp hok hrr o k11
  omega

end Go.Proofs.Qxb6500451a
