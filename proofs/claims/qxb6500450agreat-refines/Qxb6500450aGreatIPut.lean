/- The index: New, Freq, Tally, Group, Len, Reset, Del, Put. -/
import Derived.Test.Qxb6500450aGreatIBase
namespace Go.Proofs.Qxb6500450aGreat
open Go Go.RowKit
set_option maxRecDepth 100000
set_option maxHeartbeats 1600000
set_option linter.unusedSimpArgs false
set_option linter.unusedVariables false
variable {bS : Nat}

theorem fld1 (a : Option Nat) (n : Int) (W : World) : (Instr.field 117 (.agg #[.map a, .int .i64 n]) 1).run Tryz.prog W = .ok (.int .i64 n) W := by kernel_rfl
theorem fld0 (a : Option Nat) (n : Int) (W : World) : (Instr.field 117 (.agg #[.map a, .int .i64 n]) 0).run Tryz.prog W = .ok (.map a) W := by kernel_rfl
theorem ifreq_any {w : World} {F : Nat → Prop} {bX : Nat} {f : DocF} {r : Int → Nat} (h : XR bS w F bX f r) (x : ByteArray) :
    Calls Tryz.prog 59 #[.pointer (some ⟨bX, 0, none⟩), .string x] w fun e w' => e = .returned (.int .i64 (frq f x : Int)) ∧ w' = w := by
  obtain ⟨bi, bb, q, FS, h⟩ := h
  have c1 := h.x1.c
  obtain ⟨n, mi⟩ := h.xi.inv
  have hlk := mi.lookup kStr uInv (zPost w) x false
  clear h
  by_cases hL : 12 < x.size
  · have HE : Hid (frq f x = 0) := by unfold Hid frq; rw [if_pos hL]
    have hI : (12 : Int) < (x.size : Int) := by omega
    clear hlk
    go_enter Tryz.func59, Tryz.ntmps59
    go_wp2_with fail
    go_ret
    rw [HE.out]
    exact ⟨rfl, rfl⟩
  · have HE : Hid (frq f x = fq (hwD f) x) := by unfold Hid frq; rw [if_neg hL]
    have hI : ¬ (12 : Int) < (x.size : Int) := by omega
    by_cases h0 : fq (hwD f) x = 0
    · have e : im q (hwD f) x = none := by unfold im; rw [if_pos h0]
      rw [e] at hlk
      have hlk' : (Instr.lookup 77 (.map (some bi)) (.string x) false).run Tryz.prog w = .ok (.agg #[.map none, .int .i64 0]) w := hlk
      have H0 := hid h0
      have hfd := fld1
      clear hlk e h0 hL
      go_enter Tryz.func59, Tryz.ntmps59
      go_wp2_with fail
      go_ret
      rw [HE.out, H0.out]
      exact ⟨rfl, rfl⟩
    · have e : im q (hwD f) x = some (.agg #[.map (some (q x)), .int .i64 (fq (hwD f) x : Int)]) := by unfold im; rw [if_neg h0]
      rw [e] at hlk
      have hlk' : (Instr.lookup 77 (.map (some bi)) (.string x) false).run Tryz.prog w = .ok (.agg #[.map (some (q x)), .int .i64 (fq (hwD f) x : Int)]) w := hlk
      have hfd := fld1
      clear hlk e h0 hL
      go_enter Tryz.func59, Tryz.ntmps59
      go_wp2_with fail
      go_ret
      rw [HE.out]
      exact ⟨rfl, rfl⟩

theorem igroup_any {w : World} {F : Nat → Prop} {bX : Nat} {f : DocF} {r : Int → Nat} (h : XR bS w F bX f r) (id : Int) :
    Calls Tryz.prog 56 #[.pointer (some ⟨bX, 0, none⟩), .int .i64 id] w fun e w' => e = .returned (.tuple #[.int .i64 (getP f id).g, .int .i64 (getP f id).e]) ∧ Fr (fun _ => False) w w' := by
  obtain ⟨bi, bb, q, FS, h⟩ := h
  have c0 := h.x0.c
  have HG := hid (get_any h.st id)
  clear h
  go_enter Tryz.func56, Tryz.ntmps56
  go_wp2_with fail
  refine HG.out.mono ?_
  rintro e w1 ⟨rfl, f1⟩
  have F1 := hid f1
  clear f1
  simp only [docV]
  go_wp2_with fail
  go_ret2
  exact ⟨rfl, F1.out.alloc _⟩

theorem ilen_any {w : World} {F : Nat → Prop} {bX : Nat} {f : DocF} {r : Int → Nat} (h : XR bS w F bX f r) :
    Calls Tryz.prog 62 #[.pointer (some ⟨bX, 0, none⟩)] w fun e w' => e = .returned (.int .i64 (nDocs f : Int)) ∧ w' = w := by
  obtain ⟨bi, bb, q, FS, h⟩ := h
  have c0 := h.x0.c
  have HG := hid (len_any h.st)
  clear h
  go_enter Tryz.func62, Tryz.ntmps62
  go_wp2_with fail
  refine HG.out.mono ?_
  rintro e w1 ⟨rfl, hw⟩
  obtain rfl := hw.symm
  go_wp2_with fail
  go_ret
  exact ⟨rfl, rfl⟩

theorem im_no (q : ByteArray → Nat) : (fun _ => none) = im q (hwD noD) := by funext x; unfold im; rw [if_pos (fq_no x)]
theorem cmK_no : (fun _ => none) = cmK (tlK noD) := by funext k; unfold cmK; rw [if_pos (tlK_no k)]
/-- An index of no documents. -/
theorem XI.none {w : World} {bi bb n m : Nat} (q : ByteArray → Nat) (h1 : MapF sk w bi (fun _ => none) n) (h2 : MapF kk w bb (fun _ => none) m) (hn : bi ≠ bb) : XI w bi bb q (hwD noD) (tlK noD) :=
  ⟨⟨n, by rw [← im_no]; exact h1⟩, ⟨m, by rw [← cmK_no]; exact h2⟩, fun x hx => absurd (fq_no x) hx, fun x y hx => absurd (fq_no x) hx, hn, fun x hx => absurd (fq_no x) hx, fun x i hd => by rw [hwD_no] at hd; cases hd⟩
theorem XS_no {bi bb : Nat} {q : ByteArray → Nat} {i : Nat} (h : XS bi bb q (hwD noD) i) : i = bi ∨ i = bb := by
  rcases h with h | h | ⟨x, hx, _⟩
  · exact .inl h
  · exact .inr h
  · exact absurd (fq_no x) hx

theorem inew_any {w : World} {FS : Nat → Prop} {bS : Nat} (h : SR w FS bS noD (fun _ => 0)) (hb : ∀ i, FS i → i < w.heap.size) :
    Calls Tryz.prog 20 #[.pointer (some ⟨bS, 0, none⟩)] w fun e w' => ∃ bX, e = .returned (.pointer (some ⟨bX, 0, none⟩)) ∧ w.heap.size ≤ bX ∧ XR bS w' (fun i => FS i ∨ (w.heap.size ≤ i ∧ i < w'.heap.size)) bX noD (fun _ => 0) ∧ Fr (fun _ => False) w w' := by
  have H := hid h
  have m2 := @run_makeMap Tryz.prog
  clear h
  go_enter Tryz.func20, Tryz.ntmps20
  go_wp2_with fail
  go_ret
  have a0 := MapF.new sk w
  have f0 : Fr (fun _ => False) w (w.alloc (.map #[] 0)) := (Fr.refl _ _).alloc _
  have z0 : (w.alloc (.map #[] 0)).heap.size = w.heap.size + 1 := by simp
  generalize w.alloc (.map #[] 0) = w1 at *
  have a1 := MapF.new kk w1
  have f1 : Fr (fun _ => False) w1 (w1.alloc (.map #[] 0)) := (Fr.refl _ _).alloc _
  have z1 : (w1.alloc (.map #[] 0)).heap.size = w.heap.size + 2 := by simp [z0]
  rw [z0] at a1
  generalize w1.alloc (.map #[] 0) = w2 at *
  have g : ∀ {o v}, (#[.pointer (some ⟨bS, 0, none⟩), .map (some w.heap.size), .map (some (w.heap.size + 1))] : Array Value)[o]? = some v → At (w2.alloc (.cells #[.pointer (some ⟨bS, 0, none⟩), .map (some w.heap.size), .map (some (w.heap.size + 1))] 80)) w2.heap.size o v := fun {o v} h => At.new w2 _ 80 h
  have f2 := (Fr.refl (fun _ => False) w2).alloc (.cells #[.pointer (some ⟨bS, 0, none⟩), .map (some w.heap.size), .map (some (w.heap.size + 1))] 80)
  have z2 : (w2.alloc (.cells #[.pointer (some ⟨bS, 0, none⟩), .map (some w.heap.size), .map (some (w.heap.size + 1))] 80)).heap.size = w.heap.size + 3 := by simp [z1]
  refine ⟨w2.heap.size, by simp [z1, z0], by omega, ⟨w.heap.size, w.heap.size + 1, fun _ => 0, FS, g rfl, g rfl, g rfl, ((H.out.frw f0 (fun _ _ h => h)).frw f1 (fun _ _ h => h)).frw f2 (fun _ _ h => h), XI.none _ ((a0.fr f1 (fun h => h)).fr f2 (fun h => h)) (a1.fr f2 (fun h => h)) (by omega), fun i hi => ⟨.inl hi, by have := hb i hi; omega⟩, .inr ⟨by omega, by omega⟩, fun i hi => .inr (by rcases XS_no hi with c | c <;> omega), fun i hi => ⟨by have := hb i hi; omega, fun c => by have := hb i hi; rcases XS_no c with c | c <;> omega⟩⟩, (f0.trans f1).trans f2⟩

theorem ireset_any {w : World} {F : Nat → Prop} {bX : Nat} {f : DocF} {r : Int → Nat} (h : XR bS w F bX f r) :
    Calls Tryz.prog 63 #[.pointer (some ⟨bX, 0, none⟩)] w fun e w' => e = .returned (.int .i64 (nDocs f : Int)) ∧ XR bS w' F bX noD r ∧ Fr F w w' := by
  obtain ⟨bi, bb, q, FS, h⟩ := h
  have H := hid h
  have c1 := h.x1.c
  obtain ⟨n, mi⟩ := h.xi.inv
  obtain ⟨m, mt⟩ := h.xi.tal
  have MI := hid mi
  have MT := hid mt
  have hXi : bX ≠ bi := (mi.ne_at h.x1).symm
  have hXb : bX ≠ bb := (mt.ne_at h.x1).symm
  clear h mi mt
  go_enter Tryz.func63, Tryz.ntmps63
  go_upto_region 2 with (first
    | (refine wp_clear rfl rfl uInv MI.out rfl ?_; intro w1 hm1 hf1 hs1)
    | go_in)
  have M1 := hid hm1
  have F1 := hid hf1
  have X2 := hid (H.out.x2.fr hf1 hXi)
  clear hm1 hf1 hs1 c1
  have c2 := X2.out.c
  go_upto_region 3 with (first
    | (refine wp_clear rfl rfl uBy (MT.out.fr F1.out H.out.xi.nb.symm) rfl ?_; intro w2 hm2 hf2 hs2)
    | go_in)
  have M2 := hid hm2
  have F2 : Hid (Fr (fun i => i = bi ∨ i = bb) w w2) := (F1.out.mono (fun _ _ h => Or.inl h)).trans (hf2.mono (fun _ _ h => Or.inr h))
  have M1' := hid (M1.out.fr hf2 H.out.xi.nb)
  clear hm2 hf2 hs2 c2
  have nn : ∀ i, i ≠ bi → i ≠ bb → ¬ (i = bi ∨ i = bb) := fun i a b c => c.elim a b
  have X0 := hid (H.out.x0.fr F2.out (nn _ hXi hXb))
  have c0 := X0.out.c
  have hS : ∀ i, FS i → ¬ (i = bi ∨ i = bb) := fun i hi => nn i (fun e => (H.out.ap i hi).2 (.inl e)) (fun e => (H.out.ap i hi).2 (.inr (.inl e)))
  have HG := hid (reset_any (H.out.st.frw F2.out hS))
  clear nn hS
  go_wp2_with fail
  refine HG.out.mono ?_
  rintro e w3 ⟨rfl, st, f3⟩
  have ST := hid st
  have F3 := hid f3
  clear st f3
  go_wp2_with fail
  go_ret
  have hbi : ¬ FS bi := fun c => (H.out.ap bi c).2 (.inl rfl)
  have hbb : ¬ FS bb := fun c => (H.out.ap bb c).2 (.inr (.inl rfl))
  have hbX : ¬ FS bX := fun c => (H.out.ap bX c).1 rfl
  have hnx : ¬ (bX = bi ∨ bX = bb) := fun c => c.elim hXi hXb
  refine ⟨rfl, ⟨bi, bb, q, FS, X0.out.fr F3.out hbX, (H.out.x1.fr F2.out hnx).fr F3.out hbX, (H.out.x2.fr F2.out hnx).fr F3.out hbX, ST.out, XI.none q (M1'.out.fr F3.out hbi) (M2.out.fr F3.out hbb) H.out.xi.nb, fun i hi => ⟨(H.out.fs i hi).1, Nat.lt_of_lt_of_le (Nat.lt_of_lt_of_le (H.out.fs i hi).2 F2.out.size) F3.out.size⟩, H.out.fx, fun i hi => ?_, fun i hi => ⟨(H.out.ap i hi).1, fun c => ?_⟩⟩, ?_⟩
  · rcases XS_no hi with c | c
    · exact H.out.fi i (.inl c)
    · exact H.out.fi i (.inr (.inl c))
  · rcases XS_no c with c | c
    · exact (H.out.ap i hi).2 (.inl c)
    · exact (H.out.ap i hi).2 (.inr (.inl c))
  · refine (F2.out.mono (fun i _ c => ?_)).trans (F3.out.mono (fun i _ c => (H.out.fs i c).1))
    rcases c with c | c
    · exact H.out.fi i (.inl c)
    · exact H.out.fi i (.inr (.inl c))

end Go.Proofs.Qxb6500450aGreat
