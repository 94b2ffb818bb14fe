/- The index: Del, Put. -/
import Derived.Test.Qxb6500450aGreatIPut
namespace Go.Proofs.Qxb6500450aGreat
open Go Go.RowKit
set_option maxRecDepth 100000
set_option maxHeartbeats 1600000
set_option linter.unusedSimpArgs false
set_option linter.unusedVariables false
variable {bS : Nat}

theorem doc_eql (a b c : Int) (x y : ByteArray) (W : World) (h : ¬ (b = c ∧ x.toList = y.toList)) : (binOp BinOp.eql 112 (.agg #[.int .i64 a, .int .i64 b, .string x]) (.agg #[.int .i64 a, .int .i64 c, .string y])).run Tryz.prog W = .ok (.bool false) W := by
  rw [run_eql_struct]
  rw [run_equalIn_agg W 9999 112 _ _ (by kernel_rfl) (by kernel_rfl)]
  have hf : Tryz.prog.fieldsOf 112 = #[⟨"Id", 3, 0, false, "", "", 0⟩, ⟨"Group", 3, 1, false, "", "", 8⟩, ⟨"Text", 9, 2, false, "", "", 16⟩] := by kernel_rfl
  rw [hf]
  have hi : ∀ m n : Int, (Op.equalIn 9999 3 (.int .i64 m) (.int .i64 n)).run Tryz.prog W = .ok (m == n) W := fun m n => run_equalIn_int (P := Tryz.prog) W 9998 3 .i64 .i64 m n (by kernel_rfl)
  have hs : (Op.equalIn 9999 9 (.string x) (.string y)).run Tryz.prog W = .ok (x.toList == y.toList) W := run_equalIn_string (P := Tryz.prog) W 9998 9 x y (by kernel_rfl)
  have p0 : ∀ (m n : Int) (z : ByteArray), (part 3 #[.int .i64 m, .int .i64 n, .string z] 0).run Tryz.prog W = .ok (.int .i64 m) W := fun _ _ _ => by kernel_rfl
  have p1 : ∀ (m n : Int) (z : ByteArray), (part 3 #[.int .i64 m, .int .i64 n, .string z] 1).run Tryz.prog W = .ok (.int .i64 n) W := fun _ _ _ => by kernel_rfl
  have p2 : ∀ (m n : Int) (z : ByteArray), (part 9 #[.int .i64 m, .int .i64 n, .string z] 2).run Tryz.prog W = .ok (.string z) W := fun _ _ _ => by kernel_rfl
  by_cases e : b = c
  · subst e
    have hx : ¬ x.toList = y.toList := fun c => h ⟨rfl, c⟩
    have hxb : (x.toList == y.toList) = false := beq_eq_false_iff_ne.2 hx
    rw [hxb] at hs
    simp [Op.eqFields, Sem.run_bind, p0, p1, p2, hi, hs]
  · have : (b == c) = false := by simp [e]
    simp [Op.eqFields, Sem.run_bind, p0, p1, p2, hi, this]
theorem good_iff {id : Int} : goodB id = true ↔ 1 ≤ id ∧ id ≤ 9 := by simp [goodB]
theorem del_cases (f : DocF) (ok : OkF f) (id : Int) : (delE f id ≠ 0 ∧ f id = none) ∨ (delE f id = 0 ∧ 1 ≤ id ∧ id ≤ 9 ∧ ∃ g t, f id = some (g, t) ∧ t.size ≤ 12 ∧ getP f id = ⟨id, g, t, 0⟩) := by
  obtain e | ⟨⟨g, t⟩, e⟩ := opt (f id)
  · left
    refine ⟨?_, e⟩
    unfold delE
    split
    · simp [e]
    · simp
  · right
    obtain ⟨h1, h2, _, _, h5⟩ := ok.rng id _ e
    have hg : goodB id = true := good_iff.2 ⟨h1, h2⟩
    refine ⟨by simp [delE, hg, e], h1, h2, g, t, e, h5, by simp [getP, hg, e]⟩

theorem idel_any {w : World} {F : Nat → Prop} {bX : Nat} {f : DocF} {r : Int → Nat} (h : XR bS w F bX f r) (hF : ∀ i, F i → i < w.heap.size) (id : Int) :
    Calls Tryz.prog 47 #[.pointer (some ⟨bX, 0, none⟩), .int .i64 id] w fun e w' => e = .returned (.int .i64 (delE f id)) ∧ XR bS w' F bX (delD f id) r ∧ Fr F w w' := by
  obtain ⟨bi, bb, q, FS, h⟩ := h
  have H := hid h
  have c0 := h.x0.c
  have HG := hid (get_any h.st id)
  have HC := hid (del_cases f h.st.ok id)
  have HF := hid hF
  clear h hF
  go_enter Tryz.func47, Tryz.ntmps47
  go_wp2_with fail
  refine HG.out.mono ?_
  rintro e w1 ⟨rfl, f1⟩
  have F1 := hid f1
  clear f1 HG c0
  simp only [docV]
  go_upto_region 2 with fail
  have FA := hid (F1.out.alloc (.cells #[.int .i64 (getP f id).i, .int .i64 (getP f id).g, .string (getP f id).t] 112))
  have AN : Hid (∀ q v, (#[.int .i64 (getP f id).i, .int .i64 (getP f id).g, .string (getP f id).t] : Array Value)[q]? = some v → At (w1.alloc (.cells #[.int .i64 (getP f id).i, .int .i64 (getP f id).g, .string (getP f id).t] 112)) w1.heap.size q v) := fun q v hv => At.new w1 _ _ hv
  have NO : Hid (¬ F w1.heap.size) := fun c => by have := HF.out _ c; have := F1.out.size; omega
  generalize w1.alloc (.cells #[.int .i64 (getP f id).i, .int .i64 (getP f id).g, .string (getP f id).t] 112) = w2 at *
  generalize w1.heap.size = pO at *
  have H2 := hid (H.out.frw FA.out (fun _ _ h => h))
  have c0 := H2.out.x0.c
  have HG := hid (del_any H2.out.st id)
  go_wp2_with fail
  refine HG.out.mono ?_
  rintro e w3 ⟨rfl, st, f3⟩
  have ST := hid st
  have F3 := hid f3
  clear st f3 HG c0
  have hbX : ¬ FS bX := fun c => (H.out.ap bX c).1 rfl
  have hXS : ∀ i, XS bi bb q (hwD f) i → ¬ FS i := fun i hi c => (H.out.ap i c).2 hi
  have FF3 : Hid (Fr F w w3) := (FA.out.mono (fun _ _ h => h.elim)).trans (F3.out.mono (fun i _ c => (H.out.fs i c).1))
  have X3 := hid (H2.out.xi.fr F3.out hXS)
  have A0 := hid (H2.out.x0.fr F3.out hbX)
  have A1 := hid (H2.out.x1.fr F3.out hbX)
  have A2 := hid (H2.out.x2.fr F3.out hbX)
  have fs3 : Hid (∀ i, FS i → F i ∧ i < w3.heap.size) := fun i hi => ⟨(H.out.fs i hi).1, Nat.lt_of_lt_of_le (H2.out.fs i hi).2 F3.out.size⟩
  rcases HC.out with ⟨hne, hno⟩ | ⟨h0, h1, h2, g, t, hs, ht, hgp⟩
  · have hneb : (delE f id != 0) = true := by simp [hne]
    have HE : Hid (delD f id = f) := delD_none hno
    rw [HE.out] at ST
    clear hne hno
    go_wp2_with fail
    go_ret
    rw [HE.out]
    exact ⟨rfl, ⟨bi, bb, q, FS, A0.out, A1.out, A2.out, ST.out, X3.out, fs3.out, H.out.fx, H.out.fi, H.out.ap⟩, FF3.out⟩
  · rw [hgp] at AN
    have AN3 := hid (fun q v hv => (AN.out q v hv).fr F3.out (fun c => NO.out (H.out.fs _ c).1))
    have a0 : w3.cell? ⟨pO, 0, none⟩ = some (.int .i64 id) := (AN3.out 0 _ rfl).c
    have a1 : w3.cell? ⟨pO, 1, none⟩ = some (.int .i64 g) := (AN3.out 1 _ rfl).c
    have a2 : w3.cell? ⟨pO, 2, none⟩ = some (.string t) := (AN3.out 2 _ rfl).c
    have HR := remove_any A1.out A2.out X3.out h1 h2 (g := g) (t := t) (by omega) (fun y hy => by rw [hwD_some hs]; simp [hy]) (fun y hy => tlK_pos h1 h2 hs hy) (fun k => by have := tlK_le f k; omega)
    rw [← hwD_del hs, ← tlK_del h1 h2 hs] at HR
    simp only [docV] at HR
    have HR := hid HR
    have HS : Hid (f id = some (g, t) ∧ delE f id = 0) := ⟨hs, h0⟩
    rw [h0]
    clear hs ht hgp h0
    go_wp2_with fail
    refine HR.out.mono ?_
    rintro e w4 ⟨rfl, xi, f4⟩
    have X4 := hid xi
    have F4 := hid f4
    clear xi f4 a0 a1 a2 HR
    go_wp2_with fail
    go_ret
    have nx := H.out.nx
    have sub : ∀ i, XS bi bb q (hwD (delD f id)) i → XS bi bb q (hwD f) i := by
      rintro i (c | c | ⟨x, hx, c⟩)
      · exact .inl c
      · exact .inr (.inl c)
      · refine .inr (.inr ⟨x, fun h0 => hx ?_, c⟩)
        have := HS.out.1
        unfold fq at h0 ⊢
        rw [List.countP_eq_zero] at h0 ⊢
        intro i hi
        rw [hwD_del this]
        have := h0 i hi
        simp only [delP]
        simp at this
        simp [this]
    refine ⟨by rw [HS.out.2]; rfl, ⟨bi, bb, q, FS, A0.out.fr F4.out nx, A1.out.fr F4.out nx, A2.out.fr F4.out nx, ST.out.frw F4.out (fun i hi c => hXS i c hi), X4.out, fun i hi => ⟨(fs3.out i hi).1, Nat.lt_of_lt_of_le (fs3.out i hi).2 F4.out.size⟩, H.out.fx, fun i hi => H.out.fi i (sub i hi), fun i hi => ⟨(H.out.ap i hi).1, fun c => (H.out.ap i hi).2 (sub i c)⟩⟩, FF3.out.trans (F4.out.mono (fun i _ c => H.out.fi i c))⟩

theorem put_cases (f : DocF) (ok : OkF f) (id g : Int) (t : ByteArray) : (putE f id g t ≠ 0 ∧ putF f id g t = f) ∨ (putE f id g t = 0 ∧ 1 ≤ id ∧ id ≤ 9 ∧ t.size ≤ 12 ∧ putF f id g t = putD f id g t ∧
    ((f id = none ∧ (getP f id).e ≠ 0) ∨ ∃ g0 t0, f id = some (g0, t0) ∧ t0.size ≤ 12 ∧ getP f id = ⟨id, g0, t0, 0⟩)) := by
  by_cases h : putE f id g t = 0
  · right
    have hp : putF f id g t = putD f id g t := by unfold putF; rw [if_pos h]
    have hr : t.size ≤ 12 ∧ goodB id = true := by
      unfold putE at h
      split at h
      · cases h
      · rename_i h1
        split at h
        · cases h
        · rename_i h2
          exact ⟨by omega, by simpa using h2⟩
    obtain ⟨a, b⟩ := good_iff.1 hr.2
    refine ⟨h, a, b, hr.1, hp, ?_⟩
    obtain e | ⟨⟨g0, t0⟩, e⟩ := opt (f id)
    · left; exact ⟨e, by simp [getP, hr.2, e, noGot]⟩
    · right
      exact ⟨g0, t0, e, (ok.rng id _ e).2.2.2.2, by simp [getP, hr.2, e]⟩
  · left; exact ⟨h, by unfold putF; rw [if_neg h]⟩

/-- What Put does to the index: the state behind the store's Put, the words of the new document in. -/
theorem XC.added {w w' : World} {F : Nat → Prop} {bX : Nat} {f0 f' : DocF} {r' : Int → Nat} {bS bi bb : Nat} {q q' : ByteArray → Nat} {FS : Nat → Prop} {base : Nat}
    (x0 : At w bX 0 (.pointer (some ⟨bS, 0, none⟩))) (x1 : At w bX 1 (.map (some bi))) (x2 : At w bX 2 (.map (some bb))) (st : SR w FS bS f' r') (nx : ¬ XS bi bb q (hwD f0) bX)
    (fs : ∀ i, FS i → (F i ∨ base ≤ i) ∧ i < w.heap.size) (fx : F bX) (fi : ∀ i, XS bi bb q (hwD f0) i → F i) (ap : ∀ i, FS i → i ≠ bX ∧ ¬ XS bi bb q (hwD f0) i) (hb : base ≤ w.heap.size)
    (xi : XI w' bi bb q' (hwD f') (tlK f')) (gr : ∀ y, fq (hwD f') y ≠ 0 → (fq (hwD f0) y ≠ 0 ∧ q' y = q y) ∨ w.heap.size ≤ q' y) (hf : Fr (XS bi bb q (hwD f0)) w w') : XR bS w' (fun i => F i ∨ base ≤ i) bX f' r' := by
  have key : ∀ i, XS bi bb q' (hwD f') i → XS bi bb q (hwD f0) i ∨ w.heap.size ≤ i := by
    rintro i (c | c | ⟨x, hx, c⟩)
    · exact .inl (.inl c)
    · exact .inl (.inr (.inl c))
    · rcases gr x hx with ⟨g1, g2⟩ | g2
      · exact .inl (.inr (.inr ⟨x, g1, by rw [c, g2]⟩))
      · exact .inr (by omega)
  refine ⟨bi, bb, q', FS, x0.fr hf nx, x1.fr hf nx, x2.fr hf nx, st.frw hf (fun i hi c => (ap i hi).2 c), xi, fun i hi => ⟨(fs i hi).1, Nat.lt_of_lt_of_le (fs i hi).2 hf.size⟩, .inl fx, fun i hi => ?_, fun i hi => ⟨(ap i hi).1, fun c => ?_⟩⟩
  · rcases key i hi with c | c
    · exact .inl (fi i c)
    · exact .inr (by omega)
  · rcases key i c with c | c
    · exact (ap i hi).2 c
    · have := (fs i hi).2; omega

theorem iput_any {w : World} {F : Nat → Prop} {bX : Nat} {f : DocF} {r : Int → Nat} (h : XR bS w F bX f r) (hF : ∀ i, F i → i < w.heap.size) (id g : Int) (t : ByteArray) (hr : ∀ k, r k < 4611686018427387904) :
    Calls Tryz.prog 46 #[.pointer (some ⟨bX, 0, none⟩), .int .i64 id, .int .i64 g, .string t] w fun e w' => e = .returned (.int .i64 (putE f id g t)) ∧ XR bS w' (fun i => F i ∨ w.heap.size ≤ i) bX (putF f id g t) (putR f r id g t) ∧ Fr F w w' := by
  by_cases hL : 12 < t.size
  · have hE : putE f id g t = 1 := by unfold putE; rw [if_pos hL]
    have HE : Hid (putE f id g t = 1 ∧ putF f id g t = f ∧ putR f r id g t = r) := ⟨hE, by unfold putF; rw [hE, if_neg (by omega)], by unfold putR; rw [hE, if_neg (by omega)]⟩
    have H := hid h
    have hI : (12 : Int) < (t.size : Int) := by omega
    clear h hE
    go_enter Tryz.func46, Tryz.ntmps46
    go_wp2_with fail
    go_ret
    rw [HE.out.1, HE.out.2.1, HE.out.2.2]
    exact ⟨rfl, H.out.wide (fun i hi => .inl hi), Fr.refl _ _⟩
  have hI : ¬ (12 : Int) < (t.size : Int) := by omega
  obtain ⟨bi, bb, q, FS, h⟩ := h
  have H := hid h
  have c0 := h.x0.c
  have HG := hid (get_any h.st id)
  have HC := hid (put_cases f h.st.ok id g t)
  have HF := hid hF
  have HRR := hid hr
  clear h hF hr hL
  go_enter Tryz.func46, Tryz.ntmps46
  go_wp2_with fail
  refine HG.out.mono ?_
  rintro e w1 ⟨rfl, f1⟩
  have F1 := hid f1
  clear f1 HG c0
  simp only [docV]
  go_upto_region 4 with fail
  have FA := hid (F1.out.alloc (.cells #[.int .i64 (getP f id).i, .int .i64 (getP f id).g, .string (getP f id).t] 112))
  have AN : Hid (∀ q v, (#[.int .i64 (getP f id).i, .int .i64 (getP f id).g, .string (getP f id).t] : Array Value)[q]? = some v → At (w1.alloc (.cells #[.int .i64 (getP f id).i, .int .i64 (getP f id).g, .string (getP f id).t] 112)) w1.heap.size q v) := fun q v hv => At.new w1 _ _ hv
  have NO : Hid (∀ i, F i → i ≠ w1.heap.size) := fun i c => by have := HF.out _ c; have := F1.out.size; omega
  have NZ : Hid (w.heap.size ≤ w1.heap.size) := F1.out.size
  generalize w1.alloc (.cells #[.int .i64 (getP f id).i, .int .i64 (getP f id).g, .string (getP f id).t] 112) = w2 at *
  generalize w1.heap.size = pO at *
  have H2 := hid (H.out.frw FA.out (fun _ _ h => h))
  have c0 := H2.out.x0.c
  have HG := hid (put_any H2.out.st id g t HRR.out)
  go_wp2_with fail
  refine HG.out.mono ?_
  rintro e w3 ⟨rfl, st, f3⟩
  have ST := hid st.within
  have F3 := hid f3
  clear st f3 HG c0
  have hbX : ¬ FS bX := fun c => (H.out.ap bX c).1 rfl
  have hXS : ∀ i, XS bi bb q (hwD f) i → ¬ FS i := fun i hi c => (H.out.ap i c).2 hi
  have FF3 : Hid (Fr F w w3) := (FA.out.mono (fun _ _ h => h.elim)).trans (F3.out.mono (fun i _ c => (H.out.fs i c).1))
  have X3 := hid (H2.out.xi.fr F3.out hXS)
  have A0 := hid (H2.out.x0.fr F3.out hbX)
  have A1 := hid (H2.out.x1.fr F3.out hbX)
  have A2 := hid (H2.out.x2.fr F3.out hbX)
  have AN3 := hid (fun q v hv => (AN.out q v hv).fr F3.out (fun c => NO.out _ (H.out.fs _ c).1 rfl))
  have hw2 := FA.out.size
  have hpO : pO < w2.heap.size := (AN.out 0 _ rfl).lt
  -- the store's blocks now
  have fs3 : Hid (∀ i, ((FS i ∨ w2.heap.size ≤ i) ∧ i < w3.heap.size) → (F i ∨ w.heap.size ≤ i) ∧ i < w3.heap.size) := fun i hi => ⟨hi.1.elim (fun c => .inl (H.out.fs i c).1) (fun c => .inr (by omega)), hi.2⟩
  have ap3 : Hid (∀ i, ((FS i ∨ w2.heap.size ≤ i) ∧ i < w3.heap.size) → i ≠ bX ∧ ¬ XS bi bb q (hwD f) i) := fun i hi => by
    rcases hi.1 with c | c
    · exact H.out.ap i c
    · exact ⟨fun e => by have := H.out.x0.lt; omega, fun k => by have := H.out.xi.lt i k; omega⟩
  have NX := hid H.out.nx
  rcases HC.out with ⟨hne, hpf⟩ | ⟨h0, h1, h2, ht, hpf, hcs⟩
  · have hneb : (putE f id g t != 0) = true := by simp [hne]
    have HE : Hid (putF f id g t = f) := hpf
    rw [HE.out] at ST
    clear hne hpf
    go_wp2_with fail
    go_ret
    rw [HE.out]
    refine ⟨rfl, ⟨bi, bb, q, _, A0.out, A1.out, A2.out, ST.out, X3.out, fs3.out, .inl H.out.fx, fun i hi => .inl (H.out.fi i hi), ap3.out⟩, FF3.out⟩
  · rw [hpf] at ST
    have HE : Hid (putF f id g t = putD f id g t ∧ putE f id g t = 0) := ⟨hpf, h0⟩
    rw [h0]
    clear hpf h0
    go_upto_region 8 with fail
    have FN := hid ((Fr.refl (fun _ => False) w3).alloc (.cells #[.int .i64 id, .int .i64 g, .string t] 112))
    have BN : Hid (∀ q v, (#[.int .i64 id, .int .i64 g, .string t] : Array Value)[q]? = some v → At (w3.alloc (.cells #[.int .i64 id, .int .i64 g, .string t] 112)) w3.heap.size q v) := fun q v hv => At.new w3 _ _ hv
    have ST4 := hid (ST.out.frw FN.out (fun _ _ h => h))
    have X4 := hid (X3.out.fr FN.out (fun _ _ h => h))
    have B0 := hid (A0.out.fr FN.out (fun h => h))
    have B1 := hid (A1.out.fr FN.out (fun h => h))
    have B2 := hid (A2.out.fr FN.out (fun h => h))
    have AN4 := hid (fun q v hv => (AN3.out q v hv).fr FN.out (fun h => h))
    have FF4 := hid (FF3.out.trans (FN.out.mono (fun _ _ h => h.elim)))
    have z34 : w3.heap.size ≤ (w3.alloc (.cells #[.int .i64 id, .int .i64 g, .string t] 112)).heap.size := FN.out.size
    have z23 : w2.heap.size ≤ w3.heap.size := F3.out.size
    have NP : Hid (¬ XS bi bb q (hwD f) w3.heap.size) := fun k => by have := X3.out.lt _ k; omega
    have NQ : Hid (¬ XS bi bb q (hwD f) pO) := fun k => NO.out _ (H.out.fi _ k) rfl
    generalize w3.alloc (.cells #[.int .i64 id, .int .i64 g, .string t] 112) = w4 at *
    have fs4 : Hid (∀ i, ((FS i ∨ w2.heap.size ≤ i) ∧ i < w3.heap.size) → (F i ∨ w.heap.size ≤ i) ∧ i < w4.heap.size) := fun i hi => ⟨(fs3.out i hi).1, by omega⟩
    generalize w3.heap.size = pN at *
    rcases hcs with ⟨hno, hge⟩ | ⟨g0, t0, hs, ht0, hgp⟩
    · have hgeb : ((getP f id).e == 0) = false := by simp [hge]
      have HR := add_any B1.out B2.out X4.out h1 h2 (g := g) (t := t) (by omega) (fun y hy => hwD_none hno y) (fun k => by have := tlK_le f k; omega)
      rw [← hwD_put f id g t hno, ← tlK_put f h1 h2 g t hno] at HR
      simp only [docV] at HR
      have HR := hid HR
      have n0 : w4.cell? ⟨pN, 0, none⟩ = some (.int .i64 id) := (BN.out 0 _ rfl).c
      have n1 : w4.cell? ⟨pN, 1, none⟩ = some (.int .i64 g) := (BN.out 1 _ rfl).c
      have n2 : w4.cell? ⟨pN, 2, none⟩ = some (.string t) := (BN.out 2 _ rfl).c
      clear hno hge
      go_wp2_with fail
      refine HR.out.mono ?_
      rintro e w5 ⟨rfl, ⟨q', xi, gr⟩, f5⟩
      have HX := hid (XC.added (F := F) (base := w.heap.size) B0.out B1.out B2.out ST4.out NX.out fs4.out H.out.fx H.out.fi ap3.out (Nat.le_trans (Nat.le_trans hw2 z23) z34) xi gr f5)
      have FF5 := hid (FF4.out.trans (f5.mono (fun i _ c => H.out.fi i c)))
      clear xi gr f5 n0 n1 n2 HR
      go_wp2_with fail
      go_ret
      rw [HE.out.1, HE.out.2]
      exact ⟨rfl, HX.out, FF5.out⟩
    · have hge : (getP f id).e = 0 := by rw [hgp]
      have hgeb : ((getP f id).e == 0) = true := by simp [hge]
      rw [hgp] at AN4
      have a0 : w4.cell? ⟨pO, 0, none⟩ = some (.int .i64 id) := (AN4.out 0 _ rfl).c
      have a1 : w4.cell? ⟨pO, 1, none⟩ = some (.int .i64 g0) := (AN4.out 1 _ rfl).c
      have a2 : w4.cell? ⟨pO, 2, none⟩ = some (.string t0) := (AN4.out 2 _ rfl).c
      have n0 : w4.cell? ⟨pN, 0, none⟩ = some (.int .i64 id) := (BN.out 0 _ rfl).c
      have n1 : w4.cell? ⟨pN, 1, none⟩ = some (.int .i64 g) := (BN.out 1 _ rfl).c
      have n2 : w4.cell? ⟨pN, 2, none⟩ = some (.string t) := (BN.out 2 _ rfl).c
      clear hgp hge
      by_cases hsame : g0 = g ∧ t0 = t
      · obtain ⟨rfl, rfl⟩ := hsame
        have HP : Hid (putD f id g0 t0 = f) := put_same hs
        rw [HP.out] at ST4
        clear hs
        go_wp2_with fail
        go_ret
        rw [HE.out.1, HE.out.2, HP.out]
        exact ⟨rfl, ⟨bi, bb, q, _, B0.out, B1.out, B2.out, ST4.out, X4.out, fs4.out, .inl H.out.fx, fun i hi => .inl (H.out.fi i hi), ap3.out⟩, FF4.out⟩
      · have hcmp := fun W => doc_eql id g0 g t0 t W (fun c => hsame ⟨c.1, by
          have := c.2
          rw [ByteArray.toList_eq, ByteArray.toList_eq] at this
          exact WideShapes.bytes_inj this⟩)
        have HR := remove_any B1.out B2.out X4.out h1 h2 (g := g0) (t := t0) (by omega) (fun y hy => by rw [hwD_some hs]; simp [hy]) (fun y hy => tlK_pos h1 h2 hs hy) (fun k => by have := tlK_le f k; omega)
        rw [← hwD_del hs, ← tlK_del h1 h2 hs] at HR
        simp only [docV] at HR
        have HR := hid HR
        have HS := hid hs
        clear hs hsame
        go_wp2_with fail
        refine HR.out.mono ?_
        rintro e w5 ⟨rfl, xi, f5⟩
        have X5 := hid xi
        have F5 := hid f5
        clear xi f5 a0 a1 a2 n0 n1 n2 HR hcmp
        have BN5 := hid (fun q v hv => (BN.out q v hv).fr F5.out NP.out)
        have n0 : w5.cell? ⟨pN, 0, none⟩ = some (.int .i64 id) := (BN5.out 0 _ rfl).c
        have n1 : w5.cell? ⟨pN, 1, none⟩ = some (.int .i64 g) := (BN5.out 1 _ rfl).c
        have n2 : w5.cell? ⟨pN, 2, none⟩ = some (.string t) := (BN5.out 2 _ rfl).c
        have hnd : delD f id id = none := by simp [delD]
        have HR := add_any (B1.out.fr F5.out NX.out) (B2.out.fr F5.out NX.out) X5.out h1 h2 (g := g) (t := t) (by omega) (fun y hy => hwD_none hnd y) (fun k => by have := tlK_le (delD f id) k; omega)
        rw [← hwD_put (delD f id) id g t hnd, ← tlK_put (delD f id) h1 h2 g t hnd, put_del] at HR
        simp only [docV] at HR
        have HR := hid HR
        have sub : ∀ i, XS bi bb q (hwD (delD f id)) i → XS bi bb q (hwD f) i := by
          rintro i (c | c | ⟨x, hx, c⟩)
          · exact .inl c
          · exact .inr (.inl c)
          · refine .inr (.inr ⟨x, fun h0 => hx ?_, c⟩)
            unfold fq at h0 ⊢
            rw [List.countP_eq_zero] at h0 ⊢
            intro i hi
            rw [hwD_del HS.out]
            have := h0 i hi
            simp only [delP]
            simp at this
            simp [this]
        have SUB := hid sub
        clear sub
        go_wp2_with fail
        refine HR.out.mono ?_
        rintro e w6 ⟨rfl, ⟨q', xi, gr⟩, f6⟩
        have HX := hid (XC.added (F := F) (base := w.heap.size) (f0 := delD f id) (B0.out.fr F5.out NX.out) (B1.out.fr F5.out NX.out) (B2.out.fr F5.out NX.out) (ST4.out.frw F5.out (fun i hi c => (ap3.out i hi).2 c)) (fun c => NX.out (SUB.out _ c)) (fun i hi => ⟨(fs4.out i hi).1, Nat.lt_of_lt_of_le (fs4.out i hi).2 F5.out.size⟩) H.out.fx (fun i hi => H.out.fi i (SUB.out i hi)) (fun i hi => ⟨(ap3.out i hi).1, fun c => (ap3.out i hi).2 (SUB.out i c)⟩) (Nat.le_trans (Nat.le_trans (Nat.le_trans hw2 z23) z34) F5.out.size) xi gr f6)
        have FF6 := hid ((FF4.out.trans (F5.out.mono (fun i _ c => H.out.fi i c))).trans (f6.mono (fun i _ c => H.out.fi i (SUB.out i c))))
        clear xi gr f6 n0 n1 n2 HR
        go_wp2_with fail
        go_ret
        rw [HE.out.1, HE.out.2]
        exact ⟨rfl, HX.out, FF6.out⟩

end Go.Proofs.Qxb6500450aGreat
