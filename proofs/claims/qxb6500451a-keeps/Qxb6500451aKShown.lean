/- Keeps: Shown, Spelt. -/
import Derived.Test.Qxb6500451aKAgree
namespace Go.Proofs.Qxb6500451a
open Go Go.RowKit
set_option maxRecDepth 100000
set_option maxHeartbeats 1600000
set_option linter.unusedSimpArgs false
set_option linter.unusedVariables false

theorem docsB_iTo {f : DocF} (hok : OkF f) (k : Nat) : (docsB f (iTo f k)).length ≤ 540 := by
  have h1 := docsB_len hok (iTo f k)
  have h2 := iTo_len f k
  omega

theorem PutsAt.ints {w : World} {P : Nat} {r : Int → Nat} (h : PutsAt w P r) (hr : ∀ k, r k < 4611686018427387904) : IntsAt w (some ⟨P, 1, none⟩) (revL r) := by
  refine ⟨fun n hn => ?_, .inr ⟨P, 1, rfl, (h 1 (by omega)).lt, fun i hi => ?_⟩⟩
  · simp only [revL, List.mem_map] at hn
    obtain ⟨i, _, rfl⟩ := hn
    have := hr ((i : Int) + 1)
    unfold I64; omega
  · have hi9 : i < 9 := by simpa [revL] using hi
    have e : (revL r).getD i 0 = (r ((1 + i : Nat) : Int) : Int) := by
      simp [revL, List.getD, hi9]
      congr 2
      omega
    rw [e]
    exact (h (1 + i) (by omega)).c

theorem shown_any {w : World} {D E P : Nat} {f : DocF} {r : Int → Nat} (hl : LkAt w D E f) (hp : PutsAt w P r) (hok : OkF f) (hr : ∀ k, r k < 4611686018427387904) :
    Calls Try.prog 22 #[.slice (some ⟨D, 0, none⟩) 10 10, .slice (some ⟨E, 0, none⟩) 10 10, .slice (some ⟨P, 0, none⟩) 11 11] w fun e w' => e = .returned (.string (bs (showL f r))) ∧ Fr (fun _ => False) w w' := by
  have HL := hid hl
  have HP := hid hp
  have HOK := hid hok
  have HR := hid hr
  have m3 := mk3
  have O3 := hid (OwnI.in3 w f)
  have FA := hid ((Fr.refl (fun _ => False) w).alloc (.cells #[.int .i64 0, .int .i64 0, .int .i64 0] 3))
  clear hl hp hok hr
  go_enter Try.func22, Try.ntmps22
  go_wp2_with fail
  generalize w.alloc (.cells #[.int .i64 0, .int .i64 0, .int .i64 0] 3) = w1 at *
  obtain ⟨g3, hg3⟩ : ∃ g3, g3 = w.heap.size := ⟨_, rfl⟩
  rw [← hg3] at O3 ⊢
  have HG3 := hid hg3
  clear hg3
  go_loopw [7, 9] (fun v i wr => ∃ k : Nat, 1 ≤ k ∧ k ≤ 10 ∧ i = .int .i64 k ∧ v = .string (bs (docsB f (iTo f k))) ∧ OwnI wr g3 (.slice (some ⟨g3, 0, none⟩) 3 3) (inTo f k) ∧ Fr (fun i => i = g3) w1 wr) (fun _ i _ => 10 - (intOf i).toNat)
  case atStart => exact ⟨1, by omega, by omega, rfl, rfl, O3.out, Fr.refl _ _⟩
  case round =>
    clear O3
    obtain ⟨k, hk1, hk2, rfl, rfl, oin, fr⟩ := hrel
    have FR := hid fr
    have ON := hid oin
    have FW : Hid (Fr (fun _ => False) w wr) := FA.out.then fr (fun i hi e => by have := HG3.out; omega)
    have hk0 : (0 : Int) ≤ (k : Int) := by omega
    have hz : (bs (docsB f (iTo f k))).size ≤ 540 := by rw [bs_size]; exact docsB_iTo HOK.out k
    clear oin
    by_cases hlt : k < 10
    · have hltI : (k : Int) ≤ 9 := by omega
      have hltI2 : (k : Int) < 10 := by omega
      have HS := hid (iTo_step (f := f) hk1 hlt)
      have ce := ((HL.out.e k hk1 hlt).fr FW.out (fun h => h)).c
      clear fr
      by_cases he : (getP f k).e = 0
      · obtain ⟨g, t, hg, ht, hq, hf⟩ := got_here HOK.out hk1 hlt he
        have HI := hid (inTo_some hk1 hlt he (g := g) (by rw [hq]) hg)
        rw [if_pos he] at HS
        have HB : Hid (docB f (k : Int) = itoa (k : Int) ++ [47] ++ itoa (g : Int) ++ [47] ++ t.data.toList ++ [59]) := by simp [Hid, docB, hf]
        rw [hq] at ce
        simp only at ce
        have hg0 : (0 : Int) ≤ (g : Int) := by omega
        have hg1 : (g : Int) < 3 := by omega
        have hx := inTo_le f k g
        obtain ⟨x, hxe⟩ : ∃ x, x = (inTo f k).getD g 0 := ⟨_, rfl⟩
        rw [← hxe] at HI hx
        have HXE := hid hxe
        have hx0 := hx.1
        have hx9 := hx.2
        clear hx hxe
        have HQ1 := hid hq
        have z1 : (bs (itoa (k : Int))).size ≤ 21 := by rw [bs_size]; exact itoa_len _
        have z2 : (bs (itoa (g : Int))).size ≤ 21 := by rw [bs_size]; exact itoa_len _
        clear he hq hf
        go_wp2_with fail
        refine (itoa_any (k : Int) _ (by omega) (by omega)).mono ?_
        rintro e w2 ⟨rfl, f2⟩
        have FW2 := hid (FW.out.trans f2)
        have ON2 := hid (ON.out.fr f2 (fun _ _ h => h))
        have FR2 := hid (FR.out.then f2 (fun _ _ h => h.elim))
        have c1 := ((HL.out.d1 k hk1 hlt).fr FW2.out (fun h => h)).c
        rw [HQ1.out] at c1
        simp only at c1
        clear f2 ce
        go_wp2_with fail
        refine (itoa_any (g : Int) _ (by omega) (by omega)).mono ?_
        rintro e w3 ⟨rfl, f3⟩
        have FW3 := hid (FW2.out.trans f3)
        have ON3 := hid (ON2.out.fr f3 (fun _ _ h => h))
        have FR3 := hid (FR2.out.then f3 (fun _ _ h => h.elim))
        have c2 := ((HL.out.d1 k hk1 hlt).fr FW3.out (fun h => h)).c
        have c3 := ((HL.out.d2 k hk1 hlt).fr FW3.out (fun h => h)).c
        rw [HQ1.out] at c2 c3
        simp only at c2 c3
        have aa := ON3.out.cell rfl (j := g) (by simpa [inTo] using hg)
        have ca := aa.c
        have xa := aa.f
        rw [← HXE.out] at ca
        clear f3 c1 aa
        go_wp2_with fail
        have on4 := ON3.out.set rfl g (x + 1)
        rw [← HI.out] at on4
        refine ⟨⟨k + 1, by omega, by omega, by go_num, ?_, on4, FR3.out.setCell (p := ⟨g3, g, none⟩) (fun _ => rfl) _⟩, by simp [intOf]; omega⟩
        rw [HS.out, docsB_snoc, HB.out, ← bs_append, ← bs_append, ← bs_append, ← bs_append, ← bs_append, ← bs_append, bs_eta]
        simp only [ByteArray.append_assoc]
        rfl
      · have heb : ((getP f k).e == 0) = false := by simp [he]
        have HI := hid (inTo_none hk1 hlt he)
        rw [if_neg he, List.append_nil] at HS
        generalize getP f k = q at *
        clear he
        go_wp2_with fail
        exact ⟨⟨k + 1, by omega, by omega, by go_num, by rw [HS.out], by rw [HI.out]; exact ON.out, FR.out⟩, by simp [intOf]; omega⟩
    · have hltI : ¬ (k : Int) ≤ 9 := by omega
      obtain rfl : k = 10 := by omega
      have ON' := ON.out
      rw [inTo_ten] at ON'
      rw [iTo_ten] at hz ⊢
      have IP := hid ((HP.out.fr FW.out (fun h => h)).ints HR.out)
      have hG : ∀ n ∈ grpL f, I64 n := fun n hn => by
        simp only [grpL, List.mem_map] at hn
        obtain ⟨i, _, rfl⟩ := hn
        have := cnt_le f (i : Int)
        have := nDocs_le f
        unfold I64; omega
      have HIG : Hid (IntsAt wr (some ⟨g3, 0, none⟩) (grpL f)) := by
        obtain ⟨a, cp, e, h⟩ := ON'.ints hG
        cases e
        exact h
      clear ON' ON fr hG
      go_wp2_with fail
      refine (ints_any (l := revL r) 10 IP.out (by simp [revL])).mono ?_
      rintro e w5 ⟨rfl, f5⟩
      have FW5 := hid (FW.out.trans f5)
      have HIG5 := hid (HIG.out.fr f5 (fun _ _ _ h => h))
      clear f5
      go_wp2_with fail
      refine (ints_any (l := grpL f) 3 HIG5.out (by simp [grpL])).mono ?_
      rintro e w6 ⟨rfl, f6⟩
      have FW6 := hid (FW5.out.trans f6)
      have y1 : (bs (ints (revL r))).size ≤ 1000 := by
        rw [bs_size]
        have := ints_len (revL r)
        have e : (revL r).length = 9 := by simp [revL]
        omega
      have y2 : (bs (ints (grpL f))).size ≤ 1000 := by
        rw [bs_size]
        have := ints_len (grpL f)
        have e : (grpL f).length = 3 := by simp [grpL]
        omega
      clear f6
      go_wp2_with fail
      go_ret
      refine ⟨?_, FW6.out⟩
      unfold showL
      rw [← bs_append, ← bs_append, ← bs_append, ← bs_append]
      rfl

theorem sp10 : bs (itoa 10) = ⟨#[49, 48]⟩ := by kernel_rfl
theorem sp2 : bs (itoa 4398046511104) = ⟨#[52, 51, 57, 56, 48, 52, 54, 53, 49, 49, 49, 48, 52]⟩ := by kernel_rfl
theorem sp3 : bs (itoa (-7)) = ⟨#[45, 55]⟩ := by kernel_rfl
theorem sp4 : bs (itoa (-10)) = ⟨#[45, 49, 48]⟩ := by kernel_rfl
theorem sp5 : bs (itoa 9223372036854775807) = ⟨#[57, 50, 50, 51, 51, 55, 50, 48, 51, 54, 56, 53, 52, 55, 55, 53, 56, 48, 55]⟩ := by kernel_rfl
theorem sp6 : bs (itoa (-9223372036854775808)) = ⟨#[45, 57, 50, 50, 51, 51, 55, 50, 48, 51, 54, 56, 53, 52, 55, 55, 53, 56, 48, 56]⟩ := by kernel_rfl
theorem sp7 : bs (ints [1, 4, 7]) = ⟨#[49, 32, 52, 32, 55, 32]⟩ := by kernel_rfl
theorem sp8 : bs (ints [10, -7, 4398046511104]) = ⟨#[49, 48, 32, 45, 55, 32, 52, 51, 57, 56, 48, 52, 54, 53, 49, 49, 49, 48, 52, 32]⟩ := by kernel_rfl
theorem sp9 : bs (ints []) = ⟨#[]⟩ := by kernel_rfl

theorem spelt_any (w : World) : Calls Try.prog 6 #[] w fun e w' => e = .returned (.bool true) ∧ Fr (fun _ => False) w w' := by
  go_enter Try.func6, Try.ntmps6
  go_wp2_with fail
  go_loopw [1] (fun i wr => ∃ k : Nat, k ≤ 10 ∧ i = .int .i64 k ∧ Fr (fun _ => False) w wr) (fun i _ => 10 - (intOf i).toNat)
  case atStart => exact ⟨0, by omega, rfl, Fr.refl _ _⟩
  case round =>
    obtain ⟨k, hk, rfl, fr⟩ := hrel
    have FR := hid fr
    have hk0 : (0 : Int) ≤ (k : Int) := by omega
    clear fr
    by_cases hlt : k < 10
    · have hltI : (k : Int) < 10 := by omega
      have hI : Hid (itoa (k : Int) = [dig k]) := by
        unfold Hid
        have : k = 0 ∨ k = 1 ∨ k = 2 ∨ k = 3 ∨ k = 4 ∨ k = 5 ∨ k = 6 ∨ k = 7 ∨ k = 8 ∨ k = 9 := by omega
        rcases this with rfl | rfl | rfl | rfl | rfl | rfl | rfl | rfl | rfl | rfl <;> rfl
      have hcv := conv1 (dig k) (48 + (k : Int)) (by rw [dig_toNat _ hlt])
      have hw3 : IntKind.i64.wrap (48 + (k : Int)) = 48 + (k : Int) := Go.IntWalk.i64_in _ (by omega)
      have hw4 : IntKind.u8.wrap (48 + (k : Int)) = 48 + (k : Int) := Go.IntWalk.u8_in _ (by omega)
      go_wp2_with fail
      go_region_with (go_at_call 11; refine (itoa_any (k : Int) _ (by omega) (by omega)).mono ?_; rintro e w2 ⟨rfl, hf2⟩; rw [hI.out]; first | (have p := ((At.new wr #[.int .u8 (48 + (k : Int))] 5 (o := 0) rfl).drew.fr hf2 (fun f => f)).c; have HF := hid (((Fr.refl (fun _ => False) wr).alloc (.cells #[.int .u8 (48 + (k : Int))] 5)).drew.trans hf2); have hz9 := Nat.lt_of_lt_of_le (Nat.lt_succ_self wr.heap.size) (by simpa using hf2.size : wr.heap.size + 1 ≤ w2.heap.size); clear hf2) | (have HF := hid ((Fr.refl (fun _ => False) wr).drew.trans hf2); clear hf2))
      all_goals go_wp2_with fail
      all_goals first | exact ⟨⟨k + 1, by omega, by go_num, (FR.out.trans HF.out).alloc _⟩, by simp [intOf]; omega⟩ | exact ⟨⟨k + 1, by omega, by go_num, FR.out.trans HF.out⟩, by simp [intOf]; omega⟩
    · have hltI : ¬ (k : Int) < 10 := by omega
      go_wp2_with fail
      refine (itoa_any 10 _ (by omega) (by omega)).mono ?_
      rintro e x0 ⟨rfl, fx⟩
      rw [sp10]
      replace FR := hid (FR.out.trans fx)
      clear fx
      go_wp2_with fail
      refine (itoa_any 4398046511104 _ (by omega) (by omega)).mono ?_
      rintro e x1 ⟨rfl, fx⟩
      rw [sp2]
      replace FR := hid (FR.out.trans fx)
      clear fx
      go_wp2_with fail
      refine (itoa_any (-7) _ (by omega) (by omega)).mono ?_
      rintro e x2 ⟨rfl, fx⟩
      rw [sp3]
      replace FR := hid (FR.out.trans fx)
      clear fx
      go_wp2_with fail
      refine (itoa_any (-10) _ (by omega) (by omega)).mono ?_
      rintro e x3 ⟨rfl, fx⟩
      rw [sp4]
      replace FR := hid (FR.out.trans fx)
      clear fx
      go_wp2_with fail
      refine (itoa_any 9223372036854775807 _ (by omega) (by omega)).mono ?_
      rintro e x4 ⟨rfl, fx⟩
      rw [sp5]
      replace FR := hid (FR.out.trans fx)
      clear fx
      go_wp2_with fail
      refine (itoa_any (-9223372036854775808) _ (by omega) (by omega)).mono ?_
      rintro e x5 ⟨rfl, fx⟩
      rw [sp6]
      replace FR := hid (FR.out.trans fx)
      clear fx
      go_wp2_with fail
      refine (ints_any (l := [1, 4, 7]) 3 ⟨by simp [I64], .inr ⟨x5.heap.size, 0, rfl, by simp, fun i hi => ?_⟩⟩ (by simp)).mono ?_
      · match i, hi with
        | 0, _ => exact (At.new x5 #[.int .i64 1, .int .i64 4, .int .i64 7] _ rfl).c
        | 1, _ => exact (At.new x5 #[.int .i64 1, .int .i64 4, .int .i64 7] _ rfl).c
        | 2, _ => exact (At.new x5 #[.int .i64 1, .int .i64 4, .int .i64 7] _ rfl).c
      rintro e x6 ⟨rfl, fx⟩
      rw [sp7]
      replace FR := hid ((FR.out.alloc _).trans fx)
      clear fx
      go_wp2_with fail
      refine (ints_any (l := []) 0 ⟨fun n hn => by simp at hn, .inl rfl⟩ (by simp)).mono ?_
      rintro e x7 ⟨rfl, fx⟩
      rw [sp9]
      replace FR := hid (FR.out.trans fx)
      clear fx
      go_wp2_with fail
      refine (ints_any (l := [10, -7, 4398046511104]) 3 ⟨by simp [I64], .inr ⟨x7.heap.size, 0, rfl, by simp, fun i hi => ?_⟩⟩ (by simp)).mono ?_
      · match i, hi with
        | 0, _ => exact (At.new x7 #[.int .i64 10, .int .i64 (-7), .int .i64 4398046511104] _ rfl).c
        | 1, _ => exact (At.new x7 #[.int .i64 10, .int .i64 (-7), .int .i64 4398046511104] _ rfl).c
        | 2, _ => exact (At.new x7 #[.int .i64 10, .int .i64 (-7), .int .i64 4398046511104] _ rfl).c
      rintro e x8 ⟨rfl, fx⟩
      rw [sp8]
      replace FR := hid ((FR.out.alloc _).trans fx)
      clear fx
      go_wp2_with fail
      go_ret
      exact ⟨rfl, FR.out⟩

end Go.Proofs.Qxb6500451a
