/- Keeps: Agree, Shown. -/
import Derived.Test.Qxb6500451aKOwed2
namespace Go.Proofs.Qxb6500451a
open Go Go.RowKit
set_option maxRecDepth 100000
set_option maxHeartbeats 1600000
set_option linter.unusedSimpArgs false
set_option linter.unusedVariables false

/-- The groups' counts, of 1 .. k-1. -/
def inTo (f : DocF) (k : Nat) : List Int := [(cTo f 0 k : Int), (cTo f 1 k : Int), (cTo f 2 k : Int)]
theorem inTo_one (f : DocF) : inTo f 1 = [0, 0, 0] := rfl
theorem inTo_ten (f : DocF) : inTo f 10 = grpL f := rfl
theorem inTo_none {f : DocF} {k : Nat} (h1 : 1 ≤ k) (h2 : k < 10) (he : (getP f k).e ≠ 0) : inTo f (k + 1) = inTo f k := by
  unfold inTo
  rw [cTo_step h1 h2, cTo_step h1 h2, cTo_step h1 h2, if_neg (fun h => he h.1), if_neg (fun h => he h.1), if_neg (fun h => he h.1)]
  rfl
theorem inTo_some {f : DocF} {k : Nat} (h1 : 1 ≤ k) (h2 : k < 10) (he : (getP f k).e = 0) {g : Nat} (hg : (getP f k).g = (g : Int)) (hg3 : g < 3) : inTo f (k + 1) = (inTo f k).set g ((inTo f k).getD g 0 + 1) := by
  unfold inTo
  rw [cTo_step h1 h2, cTo_step h1 h2, cTo_step h1 h2, hg]
  have : g = 0 ∨ g = 1 ∨ g = 2 := by omega
  rcases this with rfl | rfl | rfl <;> simp [he]
theorem inTo_le (f : DocF) (k g : Nat) : 0 ≤ (inTo f k).getD g 0 ∧ (inTo f k).getD g 0 ≤ 9 := by
  have h0 := cTo_le f 0 k
  have h1 := cTo_le f 1 k
  have h2 := cTo_le f 2 k
  unfold inTo
  match g with
  | 0 => simp; omega
  | 1 => simp; omega
  | 2 => simp; omega
  | g + 3 => simp

theorem got_here {f : DocF} (hok : OkF f) {k : Nat} (h1 : 1 ≤ k) (h2 : k < 10) (he : (getP f k).e = 0) : ∃ (g : Nat) (t : ByteArray), g < 3 ∧ t.size ≤ 12 ∧ getP f k = ⟨(k : Int), (g : Int), t, 0⟩ ∧ f (k : Int) = some ((g : Int), t) := by
  rcases getP_good (f := f) (i := (k : Int)) (by omega) (by omega) with ⟨e1, e2⟩ | ⟨d, e1, e2⟩
  · rw [e2] at he; simp [noGot] at he
  · obtain ⟨_, _, g1, g2, t1⟩ := hok.rng _ _ e1
    obtain ⟨g, hg⟩ : ∃ g : Nat, d.1 = (g : Int) := ⟨d.1.toNat, by omega⟩
    refine ⟨g, d.2, by omega, t1, ?_, ?_⟩
    · rw [e2, hg]
    · rw [e1, ← hg]

theorem OwnI.in3 (w : World) (f : DocF) : OwnI (w.alloc (.cells #[.int .i64 0, .int .i64 0, .int .i64 0] 3)) w.heap.size (.slice (some ⟨w.heap.size, 0, none⟩) 3 3) (inTo f 1) :=
  World.ownsRow_lit w _ 3 (Nat.le_refl _) (by unfold maxLen; omega) rfl

theorem cnt_out {f : DocF} (hok : OkF f) {g : Int} (h : g < 0 ∨ 2 < g) : cnt f g = 0 := by
  unfold cnt
  rw [List.countP_eq_zero]
  intro i _
  obtain e | ⟨d, e⟩ := opt (f i)
  · simp [has, e]
  · have := hok.rng _ _ e
    simp [has, e]
    omega

theorem agree_any {w : World} {F : Nat → Prop} {bS D E : Nat} {f : DocF} {r : Int → Nat} (h : SR w F bS f r) (hl : LkAt w D E f) :
    Calls Try.prog 21 #[.pointer (some ⟨bS, 0, none⟩), .slice (some ⟨D, 0, none⟩) 10 10, .slice (some ⟨E, 0, none⟩) 10 10, .int .i64 (nDocs f : Int)] w fun e w' => e = .returned (.bool true) ∧ Fr (fun _ => False) w w' := by
  have H := hid h
  have HL := hid hl
  have HOK := hid h.ok
  have m3 := mk3
  have O3 := hid (OwnI.in3 w f)
  have FA := hid ((Fr.refl (fun _ => False) w).alloc (.cells #[.int .i64 0, .int .i64 0, .int .i64 0] 3))
  have hn6 : (nDocs f : Int) ≤ 6 := by have := h.ok.few; omega
  have hn0 : (0 : Int) ≤ (nDocs f : Int) := by omega
  have HZ : Hid (w.heap.size < (w.alloc (.cells #[.int .i64 0, .int .i64 0, .int .i64 0] 3)).heap.size) := by unfold Hid; simp
  clear h hl
  generalize hnd : (nDocs f : Int) = nd at hn6 hn0 ⊢
  have HND := hid hnd
  clear hnd
  go_enter Try.func21, Try.ntmps21
  go_wp2_with fail
  generalize w.alloc (.cells #[.int .i64 0, .int .i64 0, .int .i64 0] 3) = w1 at *
  obtain ⟨g3, hg3⟩ : ∃ g3, g3 = w.heap.size := ⟨_, rfl⟩
  rw [← hg3] at O3 HZ ⊢
  have HG3 := hid hg3
  obtain ⟨N, hN⟩ : ∃ N, N = w1.heap.size := ⟨_, rfl⟩
  rw [← hN] at HZ
  have HN := hid hN
  clear hN hg3
  go_loopw [9, 11] (fun v i wr => ∃ k : Nat, 1 ≤ k ∧ k ≤ 10 ∧ i = .int .i64 k ∧ OwnI wr N v (iTo f k) ∧ (iTo f k = [] → v = .slice none 0 0) ∧ OwnI wr g3 (.slice (some ⟨g3, 0, none⟩) 3 3) (inTo f k) ∧ Fr (fun i => i = g3) w1 wr) (fun _ i _ => 10 - (intOf i).toNat)
  case atStart => exact ⟨1, by omega, by omega, rfl, OwnI.nil _ _, fun _ => rfl, O3.out, Fr.refl _ _⟩
  case round =>
    clear O3
    obtain ⟨k, hk1, hk2, rfl, ow, hnl, oin, fr⟩ := hrel
    have FR := hid fr
    have OI := hid ow
    have NL := hid hnl
    have ON := hid oin
    have FW : Hid (Fr (fun _ => False) w wr) := FA.out.then fr (fun i hi e => by have := HG3.out; omega)
    have hk0 : (0 : Int) ≤ (k : Int) := by omega
    have hsz := fr.size
    clear ow hnl oin
    by_cases hlt : k < 10
    · have hltI : (k : Int) ≤ 9 := by omega
      have hltI2 : (k : Int) < 10 := by omega
      have HS := hid (iTo_step (f := f) hk1 hlt)
      have hlen := iTo_len f k
      have ce := ((HL.out.e k hk1 hlt).fr FW.out (fun h => h)).c
      have c0 := ((HL.out.d0 k hk1 hlt).fr FW.out (fun h => h)).c
      have c1 := ((HL.out.d1 k hk1 hlt).fr FW.out (fun h => h)).c
      have LW := hid (HL.out.fr FW.out (fun h => h) (fun h => h))
      clear fr
      by_cases he : (getP f k).e = 0
      · obtain ⟨g, t, hg, ht, hq, hf⟩ := got_here HOK.out hk1 hlt he
        have HI := hid (inTo_some hk1 hlt he (g := g) (by rw [hq]) hg)
        rw [if_pos he] at HS
        rw [hq] at ce c0 c1
        simp only at ce c0 c1
        have hg0 : (0 : Int) ≤ (g : Int) := by omega
        have hg1 : (g : Int) < 3 := by omega
        have hg2 : (g : Int) ≤ 2 := by omega
        have hx := inTo_le f k g
        obtain ⟨x, hxe⟩ : ∃ x, x = (inTo f k).getD g 0 := ⟨_, rfl⟩
        rw [← hxe] at HI hx
        have HXE := hid hxe
        have hx0 := hx.1
        have hx9 := hx.2
        clear hx hxe
        have HQ1 := hid hq
        clear he hq hf
        have HLT : Hid (g3 < wr.heap.size) := (ON.out.lt rfl).2
        go_wp2_with (first
          | (at_builtin; refine wp_appI rfl rfl (v := u9) rfl (OI.out.fr ((Fr.refl (fun _ => False) _).alloc _) (fun _ _ h => h)) rfl (y := (k : Int)) (At.new wr #[.int .i64 (k : Int)] _ rfl).c (by omega) (by simp; have := HN.out; omega) ?_; intro gg cp w3 ow3 f3 hg3 hl3; have F3 := hid ((FW.out.alloc (.cells #[.int .i64 (k : Int)] 3)).then f3 (fun i hi e => by have := (OI.out.lt e).1; have := HN.out; have := FA.out.size; omega)); have on3 := (ON.out.fr ((Fr.refl (fun _ => False) wr).alloc (.cells #[.int .i64 (k : Int)] 3)) (fun _ _ h => h)).fr f3 (fun q hq e => by have := (OI.out.lt e).1; simp [Value.ownBlock] at hq; have := HZ.out; omega); have ON3 := hid on3; have aa := on3.cell rfl (j := g) (by simpa [inTo] using hg); have ca := aa.c; have xa := aa.f; rw [← HXE.out] at ca; have d1 := ((LW.out.d1 k hk1 hlt).fr ((Fr.refl (fun _ => False) wr).alloc (.cells #[.int .i64 (k : Int)] 3)) (fun h => h)).fr f3 (fun e => by have := (OI.out.lt e).1; have := HL.out.lt.1; have := HN.out; have := FA.out.size; omega) |>.c; rw [HQ1.out] at d1; simp only at d1; have OW3 := hid ow3; have FF3 := hid f3; clear aa on3 ow3 f3)
          | go_in)
        have on4 := ON3.out.set rfl g (x + 1)
        rw [← HI.out] at on4
        have f4 : Fr (fun i => i = g3) w3 (w3.setCell ⟨g3, g, none⟩ (.int .i64 (x + 1))) := (Fr.refl (fun i => i = g3) w3).setCell (p := ⟨g3, g, none⟩) (fun _ => rfl) _
        have ow4 := OW3.out.fr f4 (fun q hq e => by have := (OW3.out.lt hq).1; have := HZ.out; omega)
        rw [← HS.out] at ow4
        refine ⟨⟨k + 1, by omega, by omega, by go_num, ow4, fun h => ?_, on4, ((FR.out.alloc _).then FF3.out (fun i hi e => by have := (OI.out.lt e).1; have := HN.out; omega)).then f4 (fun _ _ e => e)⟩, by simp [intOf]; omega⟩
        rw [HS.out] at h
        simp at h
      · have heb : ((getP f k).e == 0) = false := by simp [he]
        have HI := hid (inTo_none hk1 hlt he)
        rw [if_neg he, List.append_nil] at HS
        generalize getP f k = q at *
        clear he c0 c1
        go_wp2_with fail
        exact ⟨⟨k + 1, by omega, by omega, by go_num, by rw [HS.out]; exact OI.out, by rw [HS.out]; exact NL.out, by rw [HI.out]; exact ON.out, FR.out⟩, by simp [intOf]; omega⟩
    · have hltI : ¬ (k : Int) ≤ 9 := by omega
      obtain rfl : k = 10 := by omega
      have OI' := OI.out
      have NL' := NL.out
      have ON' := ON.out
      rw [iTo_ten] at OI' NL'
      rw [inTo_ten] at ON'
      have OJ := hid OI'
      have OG := hid ON'
      have hi64 : ∀ i ∈ ids f, I64 i := fun i hi => by
        have := nine_mem (List.mem_filter.1 hi).1
        unfold I64; omega
      obtain ⟨a0, cap0, rfl, ia0⟩ := OI'.ints hi64
      have IA0 := hid ia0
      have HI64 := hid hi64
      clear OI' NL' ON' OI NL ON fr ia0 hi64
      go_wp2_with fail
      refine (ids_any (H.out.frw FW.out (fun _ _ h => h))).mono ?_
      rintro e w4 ⟨v4, rfl, ow4, _, f4⟩
      obtain ⟨a4, cap4, rfl, ia4⟩ := ow4.ints HI64.out
      have IA4 := hid ia4
      have F4 := hid f4
      have FW4 := hid (FW.out.trans f4)
      have OG4 := hid (OG.out.fr f4 (fun _ _ h => h))
      clear ow4 f4 ia4
      go_wp2_with fail
      have hlen9 : (ids f).length ≤ 1000000 := by rw [ids_len]; have := nDocs_le f; omega
      refine (ints_any (l := ids f) cap4 IA4.out hlen9).mono ?_
      rintro e w5 ⟨rfl, f5⟩
      have FW5 := hid (FW4.out.trans f5)
      have IA5 := hid ((IA0.out.fr F4.out (fun _ _ _ h => h)).fr f5 (fun _ _ _ h => h))
      have OG5 := hid (OG4.out.fr f5 (fun _ _ h => h))
      clear f5
      go_wp2_with fail
      refine (ints_any (l := ids f) cap0 IA5.out hlen9).mono ?_
      rintro e w6 ⟨rfl, f6⟩
      have FW6 := hid (FW5.out.trans f6)
      have OG6 := hid (OG5.out.fr f6 (fun _ _ h => h))
      clear f6
      go_wp2_with (first
        | (go_at_call 32; refine (len_any (H.out.frw FW6.out (fun _ _ h => h))).mono ?_; rintro e w7 ⟨rfl, hw7⟩; obtain rfl := hw7.symm; rw [HND.out])
        | fail)
      go_loop [15] (fun i => ∃ j : Nat, j ≤ 5 ∧ i = .int .i64 ((j : Int) - 1)) (fun i => 5 - (intOf i + 1).toNat)
      case atStart => exact ⟨0, by omega, rfl⟩
      case round =>
        obtain ⟨j, hj, rfl⟩ := hrel
        have SR6 := hid (H.out.frw FW6.out (fun _ _ h => h))
        by_cases h0 : j = 0
        · subst h0
          have hc : Hid ((cnt f (-1) : Int) = 0) := by rw [cnt_out HOK.out (by omega)]; rfl
          go_wp2_with (first
            | (go_at_call 34; refine (inGroup_any SR6.out (-1)).mono ?_; rintro e w8 ⟨rfl, hw8⟩; obtain rfl := hw8.symm; rw [hc.out])
            | fail)
          exact ⟨⟨1, by omega, rfl⟩, by simp [intOf]⟩
        · by_cases h3 : j ≤ 3
          · obtain ⟨m, rfl⟩ : ∃ m, j = m + 1 := ⟨j - 1, by omega⟩
            have ej : (((m + 1 : Nat) : Int) - 1) = (m : Int) := by omega
            rw [ej]
            have hm0 : (0 : Int) ≤ (m : Int) := by omega
            have hm2 : (m : Int) ≤ 2 := by omega
            have hm3 : (m : Int) ≤ 3 := by omega
            have hm4 : (m : Int) < 3 := by omega
            have cg := (OG6.out.cell rfl (j := m) (by simp [grpL]; omega)).c
            have hgm : (grpL f).getD m 0 = (cnt f (m : Int) : Int) := by
              have : m = 0 ∨ m = 1 ∨ m = 2 := by omega
              rcases this with rfl | rfl | rfl <;> rfl
            rw [hgm] at cg
            clear hgm ej h0 h3
            go_wp2_with (first
              | (go_at_call 34; refine (inGroup_any SR6.out (m : Int)).mono ?_; rintro e w8 ⟨rfl, hw8⟩; obtain rfl := hw8.symm)
              | fail)
            exact ⟨⟨m + 2, by omega, by go_num⟩, by simp [intOf]; omega⟩
          · by_cases h4 : j = 4
            · subst h4
              have hc : Hid ((cnt f 3 : Int) = 0) := by rw [cnt_out HOK.out (by omega)]; rfl
              go_wp2_with (first
                | (go_at_call 34; refine (inGroup_any SR6.out 3).mono ?_; rintro e w8 ⟨rfl, hw8⟩; obtain rfl := hw8.symm; rw [hc.out])
                | fail)
              exact ⟨⟨5, by omega, rfl⟩, by simp [intOf]⟩
            · obtain rfl : j = 5 := by omega
              go_wp2_with fail
              go_ret
              exact ⟨rfl, FW6.out⟩

end Go.Proofs.Qxb6500451a
