/- The gate's keeps: Holds. -/
import Derived.Test.Qxb6500452aJHold
namespace Go.Proofs.Qxb6500452a
open Go Go.RowKit
set_option maxRecDepth 100000
set_option maxHeartbeats 1600000
set_option linter.unusedSimpArgs false
set_option linter.unusedVariables false

theorem u8_ne2 {a : UInt8} {n : Nat} {m : Int} (h : a ≠ UInt8.ofNat n) (hn : n < 256) (hm : m = (n : Int)) : ((a.toNat : Int) == m) = false := by
  rw [hm]
  refine beq_eq_false_iff_ne.2 fun c => h ?_
  have : a.toNat = n := by omega
  rw [← this]
  simp
theorem holds_any {w : World} {b : LB} {s : Led} (h : LR w b s) (hf : Free s) (o : Stp) {e : Int} {T under : ByteArray} (h10 : e ≠ 10)
    (hun : (e = 1 ∨ e = 8 ∨ (o.kind = 2 ∧ 0 < o.s.size ∧ byU o.s 0 = 78)) → L.bs (showD s) = under) (hbad : e = 8 → ∃ q : Nat, q ≤ o.s.size ∧ q ≤ 20 ∧ T = atA q) :
    Calls Try.prog 38 #[belV b, o.val, ansV e 0 0 T, .string under] w fun x w' => x = .returned (.bool true) ∧ Fr (fun _ => False) w w' := by
  have H := hid h
  have HFR := hid hf
  have HUN := hid hun
  have HBAD := hid hbad
  have h10b : (e == 10) = false := beq_eq_false_iff_ne.2 h10
  clear h hf hun hbad h10
  simp only [belV, Stp.val, ansV]
  go_enter Try.func38, Try.ntmps38
  go_upto_region 1 with fail
  have FA : Hid (Fr (fun _ => False) w (((w.alloc (.cells #[.pointer (some ⟨b.D, 0, none⟩), .pointer (some ⟨b.T, 0, none⟩)] 30)).alloc (.cells #[.int .i64 o.kind, .int .i64 o.a, .int .i64 o.b, .int .i64 o.c, .string o.s, .string o.t] 65)).alloc (.cells #[.int .i64 e, .int .i64 0, .int .i64 0, .string T] 68))) := (((Fr.refl _ _).alloc _).alloc _).alloc _
  have PB : Hid (∀ q v, (#[.pointer (some ⟨b.D, 0, none⟩), .pointer (some ⟨b.T, 0, none⟩)] : Array Value)[q]? = some v → At (((w.alloc (.cells #[.pointer (some ⟨b.D, 0, none⟩), .pointer (some ⟨b.T, 0, none⟩)] 30)).alloc (.cells #[.int .i64 o.kind, .int .i64 o.a, .int .i64 o.b, .int .i64 o.c, .string o.s, .string o.t] 65)).alloc (.cells #[.int .i64 e, .int .i64 0, .int .i64 0, .string T] 68)) w.heap.size q v) := fun q v hv => ((At.new w _ _ hv).alloc _).alloc _
  have PO : Hid (StpAt (((w.alloc (.cells #[.pointer (some ⟨b.D, 0, none⟩), .pointer (some ⟨b.T, 0, none⟩)] 30)).alloc (.cells #[.int .i64 o.kind, .int .i64 o.a, .int .i64 o.b, .int .i64 o.c, .string o.s, .string o.t] 65)).alloc (.cells #[.int .i64 e, .int .i64 0, .int .i64 0, .string T] 68)) (w.heap.size + 1) 0 o) := by
    have := (StpAt.new (w.alloc (.cells #[.pointer (some ⟨b.D, 0, none⟩), .pointer (some ⟨b.T, 0, none⟩)] 30)) o).fr ((Fr.refl (fun _ => False) _).alloc (.cells #[.int .i64 e, .int .i64 0, .int .i64 0, .string T] 68))
    simp only [World.size_alloc] at this
    exact this
  have PA : Hid (∀ q v, (#[.int .i64 e, .int .i64 0, .int .i64 0, .string T] : Array Value)[q]? = some v → At (((w.alloc (.cells #[.pointer (some ⟨b.D, 0, none⟩), .pointer (some ⟨b.T, 0, none⟩)] 30)).alloc (.cells #[.int .i64 o.kind, .int .i64 o.a, .int .i64 o.b, .int .i64 o.c, .string o.s, .string o.t] 65)).alloc (.cells #[.int .i64 e, .int .i64 0, .int .i64 0, .string T] 68)) (w.heap.size + 1 + 1) q v) := fun q v hv => by
    have := At.new ((w.alloc (.cells #[.pointer (some ⟨b.D, 0, none⟩), .pointer (some ⟨b.T, 0, none⟩)] 30)).alloc (.cells #[.int .i64 o.kind, .int .i64 o.a, .int .i64 o.b, .int .i64 o.c, .string o.s, .string o.t] 65)) _ 68 hv
    simpa only [World.size_alloc] using this
  have R0 := hid (H.out.fr FA.out (fun _ _ h => h))
  generalize ((w.alloc (.cells #[.pointer (some ⟨b.D, 0, none⟩), .pointer (some ⟨b.T, 0, none⟩)] 30)).alloc (.cells #[.int .i64 o.kind, .int .i64 o.a, .int .i64 o.b, .int .i64 o.c, .string o.s, .string o.t] 65)).alloc (.cells #[.int .i64 e, .int .i64 0, .int .i64 0, .string T] 68) = w0 at *
  generalize w.heap.size + 1 + 1 = pA at *
  generalize w.heap.size + 1 = pO at *
  generalize w.heap.size = pB at *
  clear H
  have a0 := (PA.out 0 _ rfl).c
  have b0 := (PB.out 0 _ rfl).c
  have b1 := (PB.out 1 _ rfl).c
  have HU := gsum_any R0.out
  unfold belV at HU
  have HU := hid HU
  go_wp2_with fail
  refine HU.out.mono ?_
  rintro x w1 ⟨rfl, f1⟩
  have F1 := hid f1
  have R1 := hid (R0.out.fr f1 (fun _ _ h => h))
  clear f1 a0 b0 b1 HU
  have b0 := ((PB.out 0 _ rfl).fr F1.out (fun h => h)).c
  have b1 := ((PB.out 1 _ rfl).fr F1.out (fun h => h)).c
  have HU := glocked_any R1.out HFR.out
  unfold belV at HU
  have HU := hid HU
  go_wp2_with fail
  refine HU.out.mono ?_
  rintro x w2 ⟨rfl, f2⟩
  have F2 := hid (F1.out.trans f2)
  have R2 := hid (R1.out.fr f2 (fun _ _ h => h))
  clear f2 b0 b1 HU F1 R0 R1
  go_upto_region 7 with fail
  obtain ⟨d0, d1, d2, d3, d4, d5⟩ := (PO.out.fr F2.out)
  simp only [Nat.zero_add] at d1 d2 d3 d4 d5
  clear d1 d2 d3 d5
  have a0 := ((PA.out 0 _ rfl).fr F2.out (fun h => h)).c
  by_cases hk : o.kind = 2
  · have hkb : (o.kind == 2) = true := beq_iff_eq.2 hk
    by_cases hz : 0 < o.s.size
    · have hzI : (0 : Int) < (o.s.size : Int) := by omega
      have hb := byU_get hz
      by_cases hv : byU o.s 0 = 78
      · have HV := hid (show e = 1 ∨ e = 8 ∨ (o.kind = 2 ∧ 0 < o.s.size ∧ byU o.s 0 = 78) from .inr (.inr ⟨hk, hz, hv⟩))
        rw [hv] at hb
        clear hk hv
        go_upto_region 8 with fail
        by_cases e1 : e = 1
        · subst e1
          have HE : Hid (L.bs (showD s) = under) := HUN.out (.inl rfl)
          have b0 := ((PB.out 0 _ rfl).fr F2.out (fun h => h)).c
          have b1 := ((PB.out 1 _ rfl).fr F2.out (fun h => h)).c
          have HU := under_any R2.out
          rw [HE.out] at HU
          unfold belV at HU
          have HU := hid HU
          go_wp2_with fail
          refine HU.out.mono ?_
          rintro x w3 ⟨rfl, f3⟩
          have F3 := hid (F2.out.trans f3)
          clear f3 b0 b1 HU d0 d4 a0
          have a0 := ((PA.out 0 _ rfl).fr F3.out (fun h => h)).c
          have a3 := ((PA.out 3 _ rfl).fr F3.out (fun h => h)).c
          obtain ⟨d0, d1, d2, d3, d4, d5⟩ := (PO.out.fr F3.out)
          simp only [Nat.zero_add] at d1 d2 d3 d4 d5
          clear d0 d1 d2 d3 d5
          go_wp2_with fail
          go_ret
          exact ⟨rfl, FA.out.trans F3.out⟩
        have e1b : (e == 1) = false := beq_eq_false_iff_ne.2 e1
        by_cases e8 : e = 8
        · subst e8
          have HE : Hid (L.bs (showD s) = under) := HUN.out (.inr (.inl rfl))
          have b0 := ((PB.out 0 _ rfl).fr F2.out (fun h => h)).c
          have b1 := ((PB.out 1 _ rfl).fr F2.out (fun h => h)).c
          have HU := under_any R2.out
          rw [HE.out] at HU
          unfold belV at HU
          have HU := hid HU
          go_wp2_with fail
          refine HU.out.mono ?_
          rintro x w3 ⟨rfl, f3⟩
          have F3 := hid (F2.out.trans f3)
          clear f3 b0 b1 HU d0 d4 a0
          have a0 := ((PA.out 0 _ rfl).fr F3.out (fun h => h)).c
          have a3 := ((PA.out 3 _ rfl).fr F3.out (fun h => h)).c
          obtain ⟨d0, d1, d2, d3, d4, d5⟩ := (PO.out.fr F3.out)
          simp only [Nat.zero_add] at d1 d2 d3 d4 d5
          clear d0 d1 d2 d3 d5
          obtain ⟨q, hq, hq20, hT⟩ := HBAD.out (by first | exact trivial | rfl)
          subst hT
          have HP := hid (placed_any hq hq20 w3)
          clear hq hq20
          generalize atA q = aq at *
          go_wp2_with fail
          refine HP.out.mono ?_
          rintro x w4 ⟨rfl, f4⟩
          have F4 := hid (F3.out.trans f4)
          clear f4
          go_wp2_with fail
          go_ret
          exact ⟨rfl, FA.out.trans F4.out⟩
        have e8b : (e == 8) = false := beq_eq_false_iff_ne.2 e8
        clear e1 e8
        have HE : Hid (L.bs (showD s) = under) := HUN.out (HV.out)
        have b0 := ((PB.out 0 _ rfl).fr F2.out (fun h => h)).c
        have b1 := ((PB.out 1 _ rfl).fr F2.out (fun h => h)).c
        have HU := under_any R2.out
        rw [HE.out] at HU
        unfold belV at HU
        have HU := hid HU
        go_wp2_with fail
        refine HU.out.mono ?_
        rintro x w3 ⟨rfl, f3⟩
        have F3 := hid (F2.out.trans f3)
        clear f3 b0 b1 HU d0 d4 a0
        have a0 := ((PA.out 0 _ rfl).fr F3.out (fun h => h)).c
        have a3 := ((PA.out 3 _ rfl).fr F3.out (fun h => h)).c
        obtain ⟨d0, d1, d2, d3, d4, d5⟩ := (PO.out.fr F3.out)
        simp only [Nat.zero_add] at d1 d2 d3 d4 d5
        clear d0 d1 d2 d3 d5
        go_wp2_with fail
        go_ret
        exact ⟨rfl, FA.out.trans F3.out⟩
      · have hvb := u8_ne2 (n := 78) (m := 78) hv (by omega) rfl
        clear hk hv
        generalize byU o.s 0 = b78 at *
        go_upto_region 8 with fail
        by_cases e1 : e = 1
        · subst e1
          have HE : Hid (L.bs (showD s) = under) := HUN.out (.inl rfl)
          have b0 := ((PB.out 0 _ rfl).fr F2.out (fun h => h)).c
          have b1 := ((PB.out 1 _ rfl).fr F2.out (fun h => h)).c
          have HU := under_any R2.out
          rw [HE.out] at HU
          unfold belV at HU
          have HU := hid HU
          go_wp2_with fail
          refine HU.out.mono ?_
          rintro x w3 ⟨rfl, f3⟩
          have F3 := hid (F2.out.trans f3)
          clear f3 b0 b1 HU d0 d4 a0
          have a0 := ((PA.out 0 _ rfl).fr F3.out (fun h => h)).c
          have a3 := ((PA.out 3 _ rfl).fr F3.out (fun h => h)).c
          obtain ⟨d0, d1, d2, d3, d4, d5⟩ := (PO.out.fr F3.out)
          simp only [Nat.zero_add] at d1 d2 d3 d4 d5
          clear d0 d1 d2 d3 d5
          go_wp2_with fail
          go_ret
          exact ⟨rfl, FA.out.trans F3.out⟩
        have e1b : (e == 1) = false := beq_eq_false_iff_ne.2 e1
        by_cases e8 : e = 8
        · subst e8
          have HE : Hid (L.bs (showD s) = under) := HUN.out (.inr (.inl rfl))
          have b0 := ((PB.out 0 _ rfl).fr F2.out (fun h => h)).c
          have b1 := ((PB.out 1 _ rfl).fr F2.out (fun h => h)).c
          have HU := under_any R2.out
          rw [HE.out] at HU
          unfold belV at HU
          have HU := hid HU
          go_wp2_with fail
          refine HU.out.mono ?_
          rintro x w3 ⟨rfl, f3⟩
          have F3 := hid (F2.out.trans f3)
          clear f3 b0 b1 HU d0 d4 a0
          have a0 := ((PA.out 0 _ rfl).fr F3.out (fun h => h)).c
          have a3 := ((PA.out 3 _ rfl).fr F3.out (fun h => h)).c
          obtain ⟨d0, d1, d2, d3, d4, d5⟩ := (PO.out.fr F3.out)
          simp only [Nat.zero_add] at d1 d2 d3 d4 d5
          clear d0 d1 d2 d3 d5
          obtain ⟨q, hq, hq20, hT⟩ := HBAD.out (by first | exact trivial | rfl)
          subst hT
          have HP := hid (placed_any hq hq20 w3)
          clear hq hq20
          generalize atA q = aq at *
          go_wp2_with fail
          refine HP.out.mono ?_
          rintro x w4 ⟨rfl, f4⟩
          have F4 := hid (F3.out.trans f4)
          clear f4
          go_wp2_with fail
          go_ret
          exact ⟨rfl, FA.out.trans F4.out⟩
        have e8b : (e == 8) = false := beq_eq_false_iff_ne.2 e8
        clear e1 e8
        go_wp2_with fail
        go_ret
        exact ⟨rfl, FA.out.trans F2.out⟩
    · have hzI : ¬ (0 : Int) < (o.s.size : Int) := by omega
      clear hk hz
      go_upto_region 8 with fail
      by_cases e1 : e = 1
      · subst e1
        have HE : Hid (L.bs (showD s) = under) := HUN.out (.inl rfl)
        have b0 := ((PB.out 0 _ rfl).fr F2.out (fun h => h)).c
        have b1 := ((PB.out 1 _ rfl).fr F2.out (fun h => h)).c
        have HU := under_any R2.out
        rw [HE.out] at HU
        unfold belV at HU
        have HU := hid HU
        go_wp2_with fail
        refine HU.out.mono ?_
        rintro x w3 ⟨rfl, f3⟩
        have F3 := hid (F2.out.trans f3)
        clear f3 b0 b1 HU d0 d4 a0
        have a0 := ((PA.out 0 _ rfl).fr F3.out (fun h => h)).c
        have a3 := ((PA.out 3 _ rfl).fr F3.out (fun h => h)).c
        obtain ⟨d0, d1, d2, d3, d4, d5⟩ := (PO.out.fr F3.out)
        simp only [Nat.zero_add] at d1 d2 d3 d4 d5
        clear d0 d1 d2 d3 d5
        go_wp2_with fail
        go_ret
        exact ⟨rfl, FA.out.trans F3.out⟩
      have e1b : (e == 1) = false := beq_eq_false_iff_ne.2 e1
      by_cases e8 : e = 8
      · subst e8
        have HE : Hid (L.bs (showD s) = under) := HUN.out (.inr (.inl rfl))
        have b0 := ((PB.out 0 _ rfl).fr F2.out (fun h => h)).c
        have b1 := ((PB.out 1 _ rfl).fr F2.out (fun h => h)).c
        have HU := under_any R2.out
        rw [HE.out] at HU
        unfold belV at HU
        have HU := hid HU
        go_wp2_with fail
        refine HU.out.mono ?_
        rintro x w3 ⟨rfl, f3⟩
        have F3 := hid (F2.out.trans f3)
        clear f3 b0 b1 HU d0 d4 a0
        have a0 := ((PA.out 0 _ rfl).fr F3.out (fun h => h)).c
        have a3 := ((PA.out 3 _ rfl).fr F3.out (fun h => h)).c
        obtain ⟨d0, d1, d2, d3, d4, d5⟩ := (PO.out.fr F3.out)
        simp only [Nat.zero_add] at d1 d2 d3 d4 d5
        clear d0 d1 d2 d3 d5
        obtain ⟨q, hq, hq20, hT⟩ := HBAD.out (by first | exact trivial | rfl)
        subst hT
        have HP := hid (placed_any hq hq20 w3)
        clear hq hq20
        generalize atA q = aq at *
        go_wp2_with fail
        refine HP.out.mono ?_
        rintro x w4 ⟨rfl, f4⟩
        have F4 := hid (F3.out.trans f4)
        clear f4
        go_wp2_with fail
        go_ret
        exact ⟨rfl, FA.out.trans F4.out⟩
      have e8b : (e == 8) = false := beq_eq_false_iff_ne.2 e8
      clear e1 e8
      go_wp2_with fail
      go_ret
      exact ⟨rfl, FA.out.trans F2.out⟩
  · have hkb : (o.kind == 2) = false := beq_eq_false_iff_ne.2 hk
    clear hk
    go_upto_region 8 with fail
    by_cases e1 : e = 1
    · subst e1
      have HE : Hid (L.bs (showD s) = under) := HUN.out (.inl rfl)
      have b0 := ((PB.out 0 _ rfl).fr F2.out (fun h => h)).c
      have b1 := ((PB.out 1 _ rfl).fr F2.out (fun h => h)).c
      have HU := under_any R2.out
      rw [HE.out] at HU
      unfold belV at HU
      have HU := hid HU
      go_wp2_with fail
      refine HU.out.mono ?_
      rintro x w3 ⟨rfl, f3⟩
      have F3 := hid (F2.out.trans f3)
      clear f3 b0 b1 HU d0 d4 a0
      have a0 := ((PA.out 0 _ rfl).fr F3.out (fun h => h)).c
      have a3 := ((PA.out 3 _ rfl).fr F3.out (fun h => h)).c
      obtain ⟨d0, d1, d2, d3, d4, d5⟩ := (PO.out.fr F3.out)
      simp only [Nat.zero_add] at d1 d2 d3 d4 d5
      clear d0 d1 d2 d3 d5
      go_wp2_with fail
      go_ret
      exact ⟨rfl, FA.out.trans F3.out⟩
    have e1b : (e == 1) = false := beq_eq_false_iff_ne.2 e1
    by_cases e8 : e = 8
    · subst e8
      have HE : Hid (L.bs (showD s) = under) := HUN.out (.inr (.inl rfl))
      have b0 := ((PB.out 0 _ rfl).fr F2.out (fun h => h)).c
      have b1 := ((PB.out 1 _ rfl).fr F2.out (fun h => h)).c
      have HU := under_any R2.out
      rw [HE.out] at HU
      unfold belV at HU
      have HU := hid HU
      go_wp2_with fail
      refine HU.out.mono ?_
      rintro x w3 ⟨rfl, f3⟩
      have F3 := hid (F2.out.trans f3)
      clear f3 b0 b1 HU d0 d4 a0
      have a0 := ((PA.out 0 _ rfl).fr F3.out (fun h => h)).c
      have a3 := ((PA.out 3 _ rfl).fr F3.out (fun h => h)).c
      obtain ⟨d0, d1, d2, d3, d4, d5⟩ := (PO.out.fr F3.out)
      simp only [Nat.zero_add] at d1 d2 d3 d4 d5
      clear d0 d1 d2 d3 d5
      obtain ⟨q, hq, hq20, hT⟩ := HBAD.out (by first | exact trivial | rfl)
      subst hT
      have HP := hid (placed_any hq hq20 w3)
      clear hq hq20
      generalize atA q = aq at *
      go_wp2_with fail
      refine HP.out.mono ?_
      rintro x w4 ⟨rfl, f4⟩
      have F4 := hid (F3.out.trans f4)
      clear f4
      go_wp2_with fail
      go_ret
      exact ⟨rfl, FA.out.trans F4.out⟩
    have e8b : (e == 8) = false := beq_eq_false_iff_ne.2 e8
    clear e1 e8
    go_wp2_with fail
    go_ret
    exact ⟨rfl, FA.out.trans F2.out⟩

end Go.Proofs.Qxb6500452a
