/- The gate's keeps: Sum, Locked, Placed, Count, Head. -/
import Derived.Test.Qxb6500452aHLaw
import Derived.Test.Qxb6500452aJPlain
namespace Go.Proofs.Qxb6500452a
open Go Go.RowKit
set_option maxRecDepth 100000
set_option maxHeartbeats 1600000
set_option linter.unusedSimpArgs false
set_option linter.unusedVariables false

theorem gsum_any {w : World} {b : LB} {s : Led} (h : LR w b s) : Calls Try.prog 64 #[belV b] w fun e w' => e = .returned (.int .i64 400) ∧ Fr (fun _ => False) w w' := by
  have H := hid h
  clear h
  unfold belV
  go_enter Try.func64, Try.ntmps64
  go_wp2_with fail
  have fa := (Fr.refl (fun _ => False) w).alloc (.cells #[.pointer (some ⟨b.D, 0, none⟩), .pointer (some ⟨b.T, 0, none⟩)] 30)
  have HA := hid (H.out.fr fa (fun _ _ h => h))
  have FA := hid fa
  clear fa
  refine (audit_any HA.out).mono ?_
  rintro x w1 ⟨rfl, hw⟩
  obtain rfl := hw.symm
  go_wp2_with fail
  go_ret
  exact ⟨rfl, FA.out⟩
theorem glocked_any {w : World} {b : LB} {s : Led} (h : LR w b s) (hf : Free s) : Calls Try.prog 65 #[belV b] w fun e w' => e = .returned (.int .i64 0) ∧ Fr (fun _ => False) w w' := by
  have H := hid h
  have HC := hid (cnt_free hf)
  clear h hf
  unfold belV
  go_enter Try.func65, Try.ntmps65
  go_wp2_with fail
  have fa := (Fr.refl (fun _ => False) w).alloc (.cells #[.pointer (some ⟨b.D, 0, none⟩), .pointer (some ⟨b.T, 0, none⟩)] 30)
  have HA := hid (H.out.fr fa (fun _ _ h => h))
  have FA := hid fa
  clear fa
  refine (held_any HA.out.rt).mono ?_
  rintro x w1 ⟨rfl, hw⟩
  obtain rfl := hw.symm
  rw [HC.out]
  go_wp2_with fail
  go_ret
  exact ⟨rfl, FA.out⟩

theorem placed_any {q n : Nat} (hq : q ≤ n) (h20 : q ≤ 20) (w : World) : Calls Try.prog 66 #[.string (atA q), .int .i64 (n : Int)] w fun e w' => e = .returned (.bool true) ∧ Fr (fun _ => False) w w' := by
  have HA : Hid (atA q = ⟨#[64]⟩ ++ Ia.bs (Ia.itoa (q : Int))) := rfl
  generalize atA q = aq at *
  go_enter Try.func66, Try.ntmps66
  go_wp2_with fail
  go_loopw [5] (fun i wr => ∃ k : Nat, k ≤ q ∧ i = .int .i64 k ∧ Fr (fun _ => False) w wr) (fun i _ => 21 - (intOf i).toNat)
  case atStart => exact ⟨0, by omega, rfl, Fr.refl _ _⟩
  case round =>
    obtain ⟨k, hk, rfl, hf⟩ := hrel
    have HF := hid hf
    clear hf
    have hk0 : (0 : Int) ≤ (k : Int) := by omega
    have hk1 : (k : Int) ≤ (n : Int) := by omega
    have hk2 : (k : Int) ≤ 20 := by omega
    have zz : (Ia.bs (Ia.itoa (k : Int))).size ≤ 21 := by rw [Ia.bs_size]; exact Ia.itoa_len _
    by_cases he : (aq.toList == (⟨#[64]⟩ ++ Ia.bs (Ia.itoa (k : Int)) : ByteArray).toList) = true
    · go_wp2_with fail
      refine (Ia.itoa_any (k : Int) _ (by omega) (by omega)).mono ?_
      rintro e w9 ⟨rfl, f9⟩
      have F9 := hid (HF.out.trans f9)
      clear f9
      go_wp2_with fail
      go_ret
      exact ⟨rfl, F9.out⟩
    · have hne : k ≠ q := fun e => he (by rw [HA.out, e]; exact beq_self_eq_true _)
      have he' : (aq.toList == (⟨#[64]⟩ ++ Ia.bs (Ia.itoa (k : Int)) : ByteArray).toList) = false := Bool.eq_false_iff.2 he
      clear he
      go_wp2_with fail
      refine (Ia.itoa_any (k : Int) _ (by omega) (by omega)).mono ?_
      rintro e w9 ⟨rfl, f9⟩
      have F9 := hid (HF.out.trans f9)
      clear f9
      go_wp2_with fail
      exact ⟨⟨k + 1, by omega, by go_num, F9.out⟩, by simp [intOf]; omega⟩

def talV (c : Cts) : Value := .agg #[.int .i64 (c.ok : Int), .int .i64 (c.bad : Int), .int .i64 (c.err : Int), .int .i64 (c.inn : Int)]
theorem head_any {c : Cts} (h : c.ok ≤ 99 ∧ c.bad ≤ 99 ∧ c.err ≤ 99 ∧ c.inn ≤ 99) (w : World) : Calls Try.prog 39 #[talV c] w fun e w' => e = .returned (.string (showH c)) ∧ Fr (fun _ => False) w w' := by
  obtain ⟨l1, l2, l3, l4⟩ := h
  have z1 : (Ia.bs (Ia.itoa (c.ok : Int))).size ≤ 21 := by rw [Ia.bs_size]; exact Ia.itoa_len _
  have z2 : (Ia.bs (Ia.itoa (c.bad : Int))).size ≤ 21 := by rw [Ia.bs_size]; exact Ia.itoa_len _
  have z3 : (Ia.bs (Ia.itoa (c.err : Int))).size ≤ 21 := by rw [Ia.bs_size]; exact Ia.itoa_len _
  have z4 : (Ia.bs (Ia.itoa (c.inn : Int))).size ≤ 21 := by rw [Ia.bs_size]; exact Ia.itoa_len _
  unfold showH talV
  go_enter Try.func39, Try.ntmps39
  go_upto_region 1 with fail
  have F0 := hid ((Fr.refl (fun _ => False) w).alloc (.cells #[.int .i64 (c.ok : Int), .int .i64 (c.bad : Int), .int .i64 (c.err : Int), .int .i64 (c.inn : Int)] 63))
  have A0 : Hid (∀ q v, (#[.int .i64 (c.ok : Int), .int .i64 (c.bad : Int), .int .i64 (c.err : Int), .int .i64 (c.inn : Int)] : Array Value)[q]? = some v → At (w.alloc (.cells #[.int .i64 (c.ok : Int), .int .i64 (c.bad : Int), .int .i64 (c.err : Int), .int .i64 (c.inn : Int)] 63)) w.heap.size q v) := fun q v hv => At.new w _ _ hv
  generalize w.alloc (.cells #[.int .i64 (c.ok : Int), .int .i64 (c.bad : Int), .int .i64 (c.err : Int), .int .i64 (c.inn : Int)] 63) = w0 at *
  generalize w.heap.size = p0 at *
  have c1 := (A0.out 0 _ rfl).c
  go_wp2_with fail
  refine (Ia.itoa_any (c.ok : Int) _ (by omega) (by omega)).mono ?_
  rintro e w1 ⟨rfl, f1⟩
  have F1 := hid f1
  have c2 := ((A0.out 1 _ rfl).fr f1 (fun h => h)).c
  clear f1 c1
  go_wp2_with fail
  refine (Ia.itoa_any (c.bad : Int) _ (by omega) (by omega)).mono ?_
  rintro e w2 ⟨rfl, f2⟩
  have F2 := hid (F1.out.trans f2)
  have c3 := ((A0.out 2 _ rfl).fr F2.out (fun h => h)).c
  clear f2 c2
  go_wp2_with fail
  refine (Ia.itoa_any (c.err : Int) _ (by omega) (by omega)).mono ?_
  rintro e w3 ⟨rfl, f3⟩
  have F3 := hid (F2.out.trans f3)
  have c4 := ((A0.out 3 _ rfl).fr F3.out (fun h => h)).c
  clear f3 c3
  go_wp2_with fail
  refine (Ia.itoa_any (c.inn : Int) _ (by omega) (by omega)).mono ?_
  rintro e w4 ⟨rfl, f4⟩
  have F4 := hid (F3.out.trans f4)
  clear f4 c4
  go_wp2_with fail
  go_ret
  exact ⟨rfl, F0.out.trans F4.out⟩

/-- The four cells of a tally. -/
structure TB (w : World) (p : Nat) (c : Cts) : Prop where
  t0 : At w p 0 (.int .i64 (c.ok : Int))
  t1 : At w p 1 (.int .i64 (c.bad : Int))
  t2 : At w p 2 (.int .i64 (c.err : Int))
  t3 : At w p 3 (.int .i64 (c.inn : Int))
theorem TB.fr {w w' : World} {p : Nat} {c : Cts} (h : TB w p c) {S : Nat → Prop} (hf : Fr S w w') (hn : ¬ S p) : TB w' p c := ⟨h.t0.fr hf hn, h.t1.fr hf hn, h.t2.fr hf hn, h.t3.fr hf hn⟩
theorem TB.new (w : World) (c : Cts) : TB (w.alloc (.cells #[.int .i64 (c.ok : Int), .int .i64 (c.bad : Int), .int .i64 (c.err : Int), .int .i64 (c.inn : Int)] 63)) w.heap.size c := ⟨At.new w _ _ rfl, At.new w _ _ rfl, At.new w _ _ rfl, At.new w _ _ rfl⟩
theorem TB.set {w : World} {p : Nat} {c : Cts} (h : TB w p c) (c' : Cts) : TB ((((w.setCell ⟨p, 0, none⟩ (.int .i64 (c'.ok : Int))).setCell ⟨p, 1, none⟩ (.int .i64 (c'.bad : Int))).setCell ⟨p, 2, none⟩ (.int .i64 (c'.err : Int))).setCell ⟨p, 3, none⟩ (.int .i64 (c'.inn : Int))) p c' :=
  ⟨(((h.t0.same _).other (b' := p) (o' := 1) (by omega) _).other (b' := p) (o' := 2) (by omega) _).other (b' := p) (o' := 3) (by omega) _,
   (((h.t1.other (b' := p) (o' := 0) (by omega) _).same _).other (b' := p) (o' := 2) (by omega) _).other (b' := p) (o' := 3) (by omega) _,
   (((h.t2.other (b' := p) (o' := 0) (by omega) _).other (b' := p) (o' := 1) (by omega) _).same _).other (b' := p) (o' := 3) (by omega) _,
   (((h.t3.other (b' := p) (o' := 0) (by omega) _).other (b' := p) (o' := 1) (by omega) _).other (b' := p) (o' := 2) (by omega) _).same _⟩

/-- The end of Count: the four cells are stored and read. -/
theorem retT {fn : Func} {R : Ending → World → Prop} {a : Act} {W : World} {t pa : Nat} {v0 v1 v2 v3 : Value} (hres : fn.results = #[.cell t 63]) (ht : a.tmps.getD t undef = .pointer (some ⟨pa, 0, none⟩)) (hd : a.defers = [])
    (h0 : Has W pa 0) (h1 : Has W pa 1) (h2 : Has W pa 2) (h3 : Has W pa 3)
    (hR : R (.returned (.agg #[v0, v1, v2, v3])) ((((W.setCell ⟨pa, 0, none⟩ v0).setCell ⟨pa, 1, none⟩ v1).setCell ⟨pa, 2, none⟩ v2).setCell ⟨pa, 3, none⟩ v3)) :
    bodyPost Try.prog fn R .ret a ((((W.setCell ⟨pa, 0, none⟩ v0).setCell ⟨pa, 1, none⟩ v1).setCell ⟨pa, 2, none⟩ v2).setCell ⟨pa, 3, none⟩ v3) := by
  obtain ⟨_, a0⟩ := h0
  obtain ⟨_, a1⟩ := h1
  obtain ⟨_, a2⟩ := h2
  obtain ⟨_, a3⟩ := h3
  have z0 := ((((a0.same v0).other (b' := pa) (o' := 1) (by omega) v1).other (b' := pa) (o' := 2) (by omega) v2).other (b' := pa) (o' := 3) (by omega) v3).c
  have z1 := ((((a1.other (b' := pa) (o' := 0) (by omega) v0).same v1).other (b' := pa) (o' := 2) (by omega) v2).other (b' := pa) (o' := 3) (by omega) v3).c
  have z2 := ((((a2.other (b' := pa) (o' := 0) (by omega) v0).other (b' := pa) (o' := 1) (by omega) v1).same v2).other (b' := pa) (o' := 3) (by omega) v3).c
  have z3 := ((((a3.other (b' := pa) (o' := 0) (by omega) v0).other (b' := pa) (o' := 1) (by omega) v1).other (b' := pa) (o' := 2) (by omega) v2).same v3).c
  generalize (((W.setCell ⟨pa, 0, none⟩ v0).setCell ⟨pa, 1, none⟩ v1).setCell ⟨pa, 2, none⟩ v2).setCell ⟨pa, 3, none⟩ v3 = W4 at *
  have ht' : a.tmps[t]?.getD undef = .pointer (some ⟨pa, 0, none⟩) := by simpa using ht
  refine ⟨hd, _, ?_, hR⟩
  simp [results, hres, go_sem, ht', z0, z1, z2, z3]

theorem tcount_any {c : Cts} (h : c.ok ≤ 99 ∧ c.bad ≤ 99 ∧ c.err ≤ 99 ∧ c.inn ≤ 99) (e : Int) (w : World) : Calls Try.prog 37 #[talV c, .int .i64 e] w fun x w' => x = .returned (talV (cntC c e)) ∧ Fr (fun _ => False) w w' := by
  obtain ⟨l1, l2, l3, l4⟩ := h
  by_cases h0 : e = 0
  · subst h0
    have hC : talV (cntC c 0) = talV ⟨bump c.ok, c.bad, c.err, c.inn⟩ := by simp [cntC]
    rw [hC]
    clear hC
    unfold talV
    go_enter Try.func37, Try.ntmps37
    go_upto_region 1 with fail
    have FA : Hid (Fr (fun _ => False) w ((w.alloc (.cells #[.int .i64 (c.ok : Int), .int .i64 (c.bad : Int), .int .i64 (c.err : Int), .int .i64 (c.inn : Int)] 63)).alloc (.cells #[.int .i64 0, .int .i64 0, .int .i64 0, .int .i64 0] 63))) := ((Fr.refl _ _).alloc _).alloc _
    have HP : Hid (w.heap.size < w.heap.size + 1) := Nat.lt_succ_self _
    have TA : Hid (TB ((w.alloc (.cells #[.int .i64 (c.ok : Int), .int .i64 (c.bad : Int), .int .i64 (c.err : Int), .int .i64 (c.inn : Int)] 63)).alloc (.cells #[.int .i64 0, .int .i64 0, .int .i64 0, .int .i64 0] 63)) w.heap.size c) := (TB.new w c).fr ((Fr.refl (fun _ => False) _).alloc _) (fun h => h)
    have TZ : Hid (∀ q v, (#[.int .i64 0, .int .i64 0, .int .i64 0, .int .i64 0] : Array Value)[q]? = some v → At ((w.alloc (.cells #[.int .i64 (c.ok : Int), .int .i64 (c.bad : Int), .int .i64 (c.err : Int), .int .i64 (c.inn : Int)] 63)).alloc (.cells #[.int .i64 0, .int .i64 0, .int .i64 0, .int .i64 0] 63)) (w.heap.size + 1) q v) := fun q v hv => by
      have := At.new (w.alloc (.cells #[.int .i64 (c.ok : Int), .int .i64 (c.bad : Int), .int .i64 (c.err : Int), .int .i64 (c.inn : Int)] 63)) (#[.int .i64 0, .int .i64 0, .int .i64 0, .int .i64 0] : Array Value) 63 hv
      simpa using this
    generalize (w.alloc (.cells #[.int .i64 (c.ok : Int), .int .i64 (c.bad : Int), .int .i64 (c.err : Int), .int .i64 (c.inn : Int)] 63)).alloc (.cells #[.int .i64 0, .int .i64 0, .int .i64 0, .int .i64 0] 63) = w1 at *
    obtain ⟨pZ, hpZ⟩ : ∃ pZ, pZ = w.heap.size + 1 := ⟨_, rfl⟩
    rw [← hpZ] at TZ ⊢
    obtain ⟨pT, hpT⟩ : ∃ pT, pT = w.heap.size := ⟨_, rfl⟩
    rw [← hpT] at TA ⊢
    have hne : pT ≠ pZ := by omega
    have HQ : Hid (w.heap.size = pT ∧ w.heap.size + 1 = pZ) := ⟨hpT.symm, hpZ.symm⟩
    clear hpT hpZ
    have c0 := TA.out.t0.c
    have x0 := TA.out.t0.f
    go_upto_region 10 with (first | (go_at_call 51; refine (bump_any _ _).mono ?_; rintro x y ⟨rfl, hy⟩; obtain rfl := hy.symm) | fail)
    have FS : Hid (Fr (fun i => i = pT) w1 (w1.setCell ⟨pT, 0, none⟩ (.int .i64 (bump c.ok : Int)))) := (Fr.refl (fun i => i = pT) w1).setCell (p := ⟨pT, 0, none⟩) (fun _ => rfl) _
    have TZ2 := hid (fun q v hv => (TZ.out q v hv).fr FS.out (fun e => hne e.symm))
    have y0 := (TA.out.t0.same (.int .i64 (bump c.ok : Int))).c
    have y1 := (TA.out.t1.other (b' := pT) (o' := 0) (by omega) (.int .i64 (bump c.ok : Int))).c
    have y2 := (TA.out.t2.other (b' := pT) (o' := 0) (by omega) (.int .i64 (bump c.ok : Int))).c
    have y3 := (TA.out.t3.other (b' := pT) (o' := 0) (by omega) (.int .i64 (bump c.ok : Int))).c
    clear c0 x0
    generalize w1.setCell ⟨pT, 0, none⟩ (.int .i64 (bump c.ok : Int)) = w2 at *
    have d0 := (TZ2.out 0 _ rfl).c
    have d1 := (TZ2.out 1 _ rfl).c
    have d2 := (TZ2.out 2 _ rfl).c
    have d3 := (TZ2.out 3 _ rfl).c
    have e0 := (TZ2.out 0 _ rfl).f
    have e1 := (TZ2.out 1 _ rfl).f
    have e2 := (TZ2.out 2 _ rfl).f
    have e3 := (TZ2.out 3 _ rfl).f
    go_wp2_with fail
    exact retT Try.results37 rfl rfl (TZ2.out 0 _ rfl).has (TZ2.out 1 _ rfl).has (TZ2.out 2 _ rfl).has (TZ2.out 3 _ rfl).has ⟨rfl, (FA.out.then FS.out (fun i hi e => by have := HQ.out; omega)).then (box_fr _ _ _ _ _ _) (fun i hi e => by have := HQ.out; omega)⟩
  have b0 : (e == 0) = false := by simp [h0]
  by_cases h1 : e = 1
  · subst h1
    have hC : talV (cntC c 1) = talV ⟨c.ok, bump c.bad, c.err, c.inn⟩ := by simp [cntC]
    rw [hC]
    clear hC b0
    unfold talV
    go_enter Try.func37, Try.ntmps37
    go_upto_region 1 with fail
    have FA : Hid (Fr (fun _ => False) w ((w.alloc (.cells #[.int .i64 (c.ok : Int), .int .i64 (c.bad : Int), .int .i64 (c.err : Int), .int .i64 (c.inn : Int)] 63)).alloc (.cells #[.int .i64 0, .int .i64 0, .int .i64 0, .int .i64 0] 63))) := ((Fr.refl _ _).alloc _).alloc _
    have HP : Hid (w.heap.size < w.heap.size + 1) := Nat.lt_succ_self _
    have TA : Hid (TB ((w.alloc (.cells #[.int .i64 (c.ok : Int), .int .i64 (c.bad : Int), .int .i64 (c.err : Int), .int .i64 (c.inn : Int)] 63)).alloc (.cells #[.int .i64 0, .int .i64 0, .int .i64 0, .int .i64 0] 63)) w.heap.size c) := (TB.new w c).fr ((Fr.refl (fun _ => False) _).alloc _) (fun h => h)
    have TZ : Hid (∀ q v, (#[.int .i64 0, .int .i64 0, .int .i64 0, .int .i64 0] : Array Value)[q]? = some v → At ((w.alloc (.cells #[.int .i64 (c.ok : Int), .int .i64 (c.bad : Int), .int .i64 (c.err : Int), .int .i64 (c.inn : Int)] 63)).alloc (.cells #[.int .i64 0, .int .i64 0, .int .i64 0, .int .i64 0] 63)) (w.heap.size + 1) q v) := fun q v hv => by
      have := At.new (w.alloc (.cells #[.int .i64 (c.ok : Int), .int .i64 (c.bad : Int), .int .i64 (c.err : Int), .int .i64 (c.inn : Int)] 63)) (#[.int .i64 0, .int .i64 0, .int .i64 0, .int .i64 0] : Array Value) 63 hv
      simpa using this
    generalize (w.alloc (.cells #[.int .i64 (c.ok : Int), .int .i64 (c.bad : Int), .int .i64 (c.err : Int), .int .i64 (c.inn : Int)] 63)).alloc (.cells #[.int .i64 0, .int .i64 0, .int .i64 0, .int .i64 0] 63) = w1 at *
    obtain ⟨pZ, hpZ⟩ : ∃ pZ, pZ = w.heap.size + 1 := ⟨_, rfl⟩
    rw [← hpZ] at TZ ⊢
    obtain ⟨pT, hpT⟩ : ∃ pT, pT = w.heap.size := ⟨_, rfl⟩
    rw [← hpT] at TA ⊢
    have hne : pT ≠ pZ := by omega
    have HQ : Hid (w.heap.size = pT ∧ w.heap.size + 1 = pZ) := ⟨hpT.symm, hpZ.symm⟩
    clear hpT hpZ
    have c1 := TA.out.t1.c
    have x1 := TA.out.t1.f
    go_upto_region 10 with (first | (go_at_call 51; refine (bump_any _ _).mono ?_; rintro x y ⟨rfl, hy⟩; obtain rfl := hy.symm) | fail)
    have FS : Hid (Fr (fun i => i = pT) w1 (w1.setCell ⟨pT, 1, none⟩ (.int .i64 (bump c.bad : Int)))) := (Fr.refl (fun i => i = pT) w1).setCell (p := ⟨pT, 1, none⟩) (fun _ => rfl) _
    have TZ2 := hid (fun q v hv => (TZ.out q v hv).fr FS.out (fun e => hne e.symm))
    have y0 := (TA.out.t0.other (b' := pT) (o' := 1) (by omega) (.int .i64 (bump c.bad : Int))).c
    have y1 := (TA.out.t1.same (.int .i64 (bump c.bad : Int))).c
    have y2 := (TA.out.t2.other (b' := pT) (o' := 1) (by omega) (.int .i64 (bump c.bad : Int))).c
    have y3 := (TA.out.t3.other (b' := pT) (o' := 1) (by omega) (.int .i64 (bump c.bad : Int))).c
    clear c1 x1
    generalize w1.setCell ⟨pT, 1, none⟩ (.int .i64 (bump c.bad : Int)) = w2 at *
    have d0 := (TZ2.out 0 _ rfl).c
    have d1 := (TZ2.out 1 _ rfl).c
    have d2 := (TZ2.out 2 _ rfl).c
    have d3 := (TZ2.out 3 _ rfl).c
    have e0 := (TZ2.out 0 _ rfl).f
    have e1 := (TZ2.out 1 _ rfl).f
    have e2 := (TZ2.out 2 _ rfl).f
    have e3 := (TZ2.out 3 _ rfl).f
    go_wp2_with fail
    exact retT Try.results37 rfl rfl (TZ2.out 0 _ rfl).has (TZ2.out 1 _ rfl).has (TZ2.out 2 _ rfl).has (TZ2.out 3 _ rfl).has ⟨rfl, (FA.out.then FS.out (fun i hi e => by have := HQ.out; omega)).then (box_fr _ _ _ _ _ _) (fun i hi e => by have := HQ.out; omega)⟩
  have b1 : (e == 1) = false := by simp [h1]
  by_cases h8 : e = 8
  · subst h8
    have hC : talV (cntC c 8) = talV ⟨c.ok, bump c.bad, c.err, c.inn⟩ := by simp [cntC]
    rw [hC]
    clear hC b0 b1
    unfold talV
    go_enter Try.func37, Try.ntmps37
    go_upto_region 1 with fail
    have FA : Hid (Fr (fun _ => False) w ((w.alloc (.cells #[.int .i64 (c.ok : Int), .int .i64 (c.bad : Int), .int .i64 (c.err : Int), .int .i64 (c.inn : Int)] 63)).alloc (.cells #[.int .i64 0, .int .i64 0, .int .i64 0, .int .i64 0] 63))) := ((Fr.refl _ _).alloc _).alloc _
    have HP : Hid (w.heap.size < w.heap.size + 1) := Nat.lt_succ_self _
    have TA : Hid (TB ((w.alloc (.cells #[.int .i64 (c.ok : Int), .int .i64 (c.bad : Int), .int .i64 (c.err : Int), .int .i64 (c.inn : Int)] 63)).alloc (.cells #[.int .i64 0, .int .i64 0, .int .i64 0, .int .i64 0] 63)) w.heap.size c) := (TB.new w c).fr ((Fr.refl (fun _ => False) _).alloc _) (fun h => h)
    have TZ : Hid (∀ q v, (#[.int .i64 0, .int .i64 0, .int .i64 0, .int .i64 0] : Array Value)[q]? = some v → At ((w.alloc (.cells #[.int .i64 (c.ok : Int), .int .i64 (c.bad : Int), .int .i64 (c.err : Int), .int .i64 (c.inn : Int)] 63)).alloc (.cells #[.int .i64 0, .int .i64 0, .int .i64 0, .int .i64 0] 63)) (w.heap.size + 1) q v) := fun q v hv => by
      have := At.new (w.alloc (.cells #[.int .i64 (c.ok : Int), .int .i64 (c.bad : Int), .int .i64 (c.err : Int), .int .i64 (c.inn : Int)] 63)) (#[.int .i64 0, .int .i64 0, .int .i64 0, .int .i64 0] : Array Value) 63 hv
      simpa using this
    generalize (w.alloc (.cells #[.int .i64 (c.ok : Int), .int .i64 (c.bad : Int), .int .i64 (c.err : Int), .int .i64 (c.inn : Int)] 63)).alloc (.cells #[.int .i64 0, .int .i64 0, .int .i64 0, .int .i64 0] 63) = w1 at *
    obtain ⟨pZ, hpZ⟩ : ∃ pZ, pZ = w.heap.size + 1 := ⟨_, rfl⟩
    rw [← hpZ] at TZ ⊢
    obtain ⟨pT, hpT⟩ : ∃ pT, pT = w.heap.size := ⟨_, rfl⟩
    rw [← hpT] at TA ⊢
    have hne : pT ≠ pZ := by omega
    have HQ : Hid (w.heap.size = pT ∧ w.heap.size + 1 = pZ) := ⟨hpT.symm, hpZ.symm⟩
    clear hpT hpZ
    have c1 := TA.out.t1.c
    have x1 := TA.out.t1.f
    go_upto_region 10 with (first | (go_at_call 51; refine (bump_any _ _).mono ?_; rintro x y ⟨rfl, hy⟩; obtain rfl := hy.symm) | fail)
    have FS : Hid (Fr (fun i => i = pT) w1 (w1.setCell ⟨pT, 1, none⟩ (.int .i64 (bump c.bad : Int)))) := (Fr.refl (fun i => i = pT) w1).setCell (p := ⟨pT, 1, none⟩) (fun _ => rfl) _
    have TZ2 := hid (fun q v hv => (TZ.out q v hv).fr FS.out (fun e => hne e.symm))
    have y0 := (TA.out.t0.other (b' := pT) (o' := 1) (by omega) (.int .i64 (bump c.bad : Int))).c
    have y1 := (TA.out.t1.same (.int .i64 (bump c.bad : Int))).c
    have y2 := (TA.out.t2.other (b' := pT) (o' := 1) (by omega) (.int .i64 (bump c.bad : Int))).c
    have y3 := (TA.out.t3.other (b' := pT) (o' := 1) (by omega) (.int .i64 (bump c.bad : Int))).c
    clear c1 x1
    generalize w1.setCell ⟨pT, 1, none⟩ (.int .i64 (bump c.bad : Int)) = w2 at *
    have d0 := (TZ2.out 0 _ rfl).c
    have d1 := (TZ2.out 1 _ rfl).c
    have d2 := (TZ2.out 2 _ rfl).c
    have d3 := (TZ2.out 3 _ rfl).c
    have e0 := (TZ2.out 0 _ rfl).f
    have e1 := (TZ2.out 1 _ rfl).f
    have e2 := (TZ2.out 2 _ rfl).f
    have e3 := (TZ2.out 3 _ rfl).f
    go_wp2_with fail
    exact retT Try.results37 rfl rfl (TZ2.out 0 _ rfl).has (TZ2.out 1 _ rfl).has (TZ2.out 2 _ rfl).has (TZ2.out 3 _ rfl).has ⟨rfl, (FA.out.then FS.out (fun i hi e => by have := HQ.out; omega)).then (box_fr _ _ _ _ _ _) (fun i hi e => by have := HQ.out; omega)⟩
  have b8 : (e == 8) = false := by simp [h8]
  by_cases h9 : e = 9
  · subst h9
    have hC : talV (cntC c 9) = talV ⟨c.ok, c.bad, c.err, bump c.inn⟩ := by simp [cntC]
    rw [hC]
    clear hC b0 b1 b8
    unfold talV
    go_enter Try.func37, Try.ntmps37
    go_upto_region 1 with fail
    have FA : Hid (Fr (fun _ => False) w ((w.alloc (.cells #[.int .i64 (c.ok : Int), .int .i64 (c.bad : Int), .int .i64 (c.err : Int), .int .i64 (c.inn : Int)] 63)).alloc (.cells #[.int .i64 0, .int .i64 0, .int .i64 0, .int .i64 0] 63))) := ((Fr.refl _ _).alloc _).alloc _
    have HP : Hid (w.heap.size < w.heap.size + 1) := Nat.lt_succ_self _
    have TA : Hid (TB ((w.alloc (.cells #[.int .i64 (c.ok : Int), .int .i64 (c.bad : Int), .int .i64 (c.err : Int), .int .i64 (c.inn : Int)] 63)).alloc (.cells #[.int .i64 0, .int .i64 0, .int .i64 0, .int .i64 0] 63)) w.heap.size c) := (TB.new w c).fr ((Fr.refl (fun _ => False) _).alloc _) (fun h => h)
    have TZ : Hid (∀ q v, (#[.int .i64 0, .int .i64 0, .int .i64 0, .int .i64 0] : Array Value)[q]? = some v → At ((w.alloc (.cells #[.int .i64 (c.ok : Int), .int .i64 (c.bad : Int), .int .i64 (c.err : Int), .int .i64 (c.inn : Int)] 63)).alloc (.cells #[.int .i64 0, .int .i64 0, .int .i64 0, .int .i64 0] 63)) (w.heap.size + 1) q v) := fun q v hv => by
      have := At.new (w.alloc (.cells #[.int .i64 (c.ok : Int), .int .i64 (c.bad : Int), .int .i64 (c.err : Int), .int .i64 (c.inn : Int)] 63)) (#[.int .i64 0, .int .i64 0, .int .i64 0, .int .i64 0] : Array Value) 63 hv
      simpa using this
    generalize (w.alloc (.cells #[.int .i64 (c.ok : Int), .int .i64 (c.bad : Int), .int .i64 (c.err : Int), .int .i64 (c.inn : Int)] 63)).alloc (.cells #[.int .i64 0, .int .i64 0, .int .i64 0, .int .i64 0] 63) = w1 at *
    obtain ⟨pZ, hpZ⟩ : ∃ pZ, pZ = w.heap.size + 1 := ⟨_, rfl⟩
    rw [← hpZ] at TZ ⊢
    obtain ⟨pT, hpT⟩ : ∃ pT, pT = w.heap.size := ⟨_, rfl⟩
    rw [← hpT] at TA ⊢
    have hne : pT ≠ pZ := by omega
    have HQ : Hid (w.heap.size = pT ∧ w.heap.size + 1 = pZ) := ⟨hpT.symm, hpZ.symm⟩
    clear hpT hpZ
    have c3 := TA.out.t3.c
    have x3 := TA.out.t3.f
    go_upto_region 10 with (first | (go_at_call 51; refine (bump_any _ _).mono ?_; rintro x y ⟨rfl, hy⟩; obtain rfl := hy.symm) | fail)
    have FS : Hid (Fr (fun i => i = pT) w1 (w1.setCell ⟨pT, 3, none⟩ (.int .i64 (bump c.inn : Int)))) := (Fr.refl (fun i => i = pT) w1).setCell (p := ⟨pT, 3, none⟩) (fun _ => rfl) _
    have TZ2 := hid (fun q v hv => (TZ.out q v hv).fr FS.out (fun e => hne e.symm))
    have y0 := (TA.out.t0.other (b' := pT) (o' := 3) (by omega) (.int .i64 (bump c.inn : Int))).c
    have y1 := (TA.out.t1.other (b' := pT) (o' := 3) (by omega) (.int .i64 (bump c.inn : Int))).c
    have y2 := (TA.out.t2.other (b' := pT) (o' := 3) (by omega) (.int .i64 (bump c.inn : Int))).c
    have y3 := (TA.out.t3.same (.int .i64 (bump c.inn : Int))).c
    clear c3 x3
    generalize w1.setCell ⟨pT, 3, none⟩ (.int .i64 (bump c.inn : Int)) = w2 at *
    have d0 := (TZ2.out 0 _ rfl).c
    have d1 := (TZ2.out 1 _ rfl).c
    have d2 := (TZ2.out 2 _ rfl).c
    have d3 := (TZ2.out 3 _ rfl).c
    have e0 := (TZ2.out 0 _ rfl).f
    have e1 := (TZ2.out 1 _ rfl).f
    have e2 := (TZ2.out 2 _ rfl).f
    have e3 := (TZ2.out 3 _ rfl).f
    go_wp2_with fail
    exact retT Try.results37 rfl rfl (TZ2.out 0 _ rfl).has (TZ2.out 1 _ rfl).has (TZ2.out 2 _ rfl).has (TZ2.out 3 _ rfl).has ⟨rfl, (FA.out.then FS.out (fun i hi e => by have := HQ.out; omega)).then (box_fr _ _ _ _ _ _) (fun i hi e => by have := HQ.out; omega)⟩
  have b9 : (e == 9) = false := by simp [h9]
  have hC : talV (cntC c e) = talV ⟨c.ok, c.bad, bump c.err, c.inn⟩ := by simp [cntC, h0, h1, h8, h9]
  rw [hC]
  clear hC h0 h1 h8 h9
  unfold talV
  go_enter Try.func37, Try.ntmps37
  go_upto_region 1 with fail
  have FA : Hid (Fr (fun _ => False) w ((w.alloc (.cells #[.int .i64 (c.ok : Int), .int .i64 (c.bad : Int), .int .i64 (c.err : Int), .int .i64 (c.inn : Int)] 63)).alloc (.cells #[.int .i64 0, .int .i64 0, .int .i64 0, .int .i64 0] 63))) := ((Fr.refl _ _).alloc _).alloc _
  have HP : Hid (w.heap.size < w.heap.size + 1) := Nat.lt_succ_self _
  have TA : Hid (TB ((w.alloc (.cells #[.int .i64 (c.ok : Int), .int .i64 (c.bad : Int), .int .i64 (c.err : Int), .int .i64 (c.inn : Int)] 63)).alloc (.cells #[.int .i64 0, .int .i64 0, .int .i64 0, .int .i64 0] 63)) w.heap.size c) := (TB.new w c).fr ((Fr.refl (fun _ => False) _).alloc _) (fun h => h)
  have TZ : Hid (∀ q v, (#[.int .i64 0, .int .i64 0, .int .i64 0, .int .i64 0] : Array Value)[q]? = some v → At ((w.alloc (.cells #[.int .i64 (c.ok : Int), .int .i64 (c.bad : Int), .int .i64 (c.err : Int), .int .i64 (c.inn : Int)] 63)).alloc (.cells #[.int .i64 0, .int .i64 0, .int .i64 0, .int .i64 0] 63)) (w.heap.size + 1) q v) := fun q v hv => by
    have := At.new (w.alloc (.cells #[.int .i64 (c.ok : Int), .int .i64 (c.bad : Int), .int .i64 (c.err : Int), .int .i64 (c.inn : Int)] 63)) (#[.int .i64 0, .int .i64 0, .int .i64 0, .int .i64 0] : Array Value) 63 hv
    simpa using this
  generalize (w.alloc (.cells #[.int .i64 (c.ok : Int), .int .i64 (c.bad : Int), .int .i64 (c.err : Int), .int .i64 (c.inn : Int)] 63)).alloc (.cells #[.int .i64 0, .int .i64 0, .int .i64 0, .int .i64 0] 63) = w1 at *
  obtain ⟨pZ, hpZ⟩ : ∃ pZ, pZ = w.heap.size + 1 := ⟨_, rfl⟩
  rw [← hpZ] at TZ ⊢
  obtain ⟨pT, hpT⟩ : ∃ pT, pT = w.heap.size := ⟨_, rfl⟩
  rw [← hpT] at TA ⊢
  have hne : pT ≠ pZ := by omega
  have HQ : Hid (w.heap.size = pT ∧ w.heap.size + 1 = pZ) := ⟨hpT.symm, hpZ.symm⟩
  clear hpT hpZ
  have c2 := TA.out.t2.c
  have x2 := TA.out.t2.f
  go_upto_region 10 with (first | (go_at_call 51; refine (bump_any _ _).mono ?_; rintro x y ⟨rfl, hy⟩; obtain rfl := hy.symm) | fail)
  have FS : Hid (Fr (fun i => i = pT) w1 (w1.setCell ⟨pT, 2, none⟩ (.int .i64 (bump c.err : Int)))) := (Fr.refl (fun i => i = pT) w1).setCell (p := ⟨pT, 2, none⟩) (fun _ => rfl) _
  have TZ2 := hid (fun q v hv => (TZ.out q v hv).fr FS.out (fun e => hne e.symm))
  have y0 := (TA.out.t0.other (b' := pT) (o' := 2) (by omega) (.int .i64 (bump c.err : Int))).c
  have y1 := (TA.out.t1.other (b' := pT) (o' := 2) (by omega) (.int .i64 (bump c.err : Int))).c
  have y2 := (TA.out.t2.same (.int .i64 (bump c.err : Int))).c
  have y3 := (TA.out.t3.other (b' := pT) (o' := 2) (by omega) (.int .i64 (bump c.err : Int))).c
  clear c2 x2
  generalize w1.setCell ⟨pT, 2, none⟩ (.int .i64 (bump c.err : Int)) = w2 at *
  have d0 := (TZ2.out 0 _ rfl).c
  have d1 := (TZ2.out 1 _ rfl).c
  have d2 := (TZ2.out 2 _ rfl).c
  have d3 := (TZ2.out 3 _ rfl).c
  have e0 := (TZ2.out 0 _ rfl).f
  have e1 := (TZ2.out 1 _ rfl).f
  have e2 := (TZ2.out 2 _ rfl).f
  have e3 := (TZ2.out 3 _ rfl).f
  go_wp2_with fail
  exact retT Try.results37 rfl rfl (TZ2.out 0 _ rfl).has (TZ2.out 1 _ rfl).has (TZ2.out 2 _ rfl).has (TZ2.out 3 _ rfl).has ⟨rfl, (FA.out.then FS.out (fun i hi e => by have := HQ.out; omega)).then (box_fr _ _ _ _ _ _) (fun i hi e => by have := HQ.out; omega)⟩

end Go.Proofs.Qxb6500452a
