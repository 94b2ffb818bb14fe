/- The closed examples: one item, one contract. -/
import Derived.Test.Qxb6500452aGFacts0
namespace Go.Proofs.Qxb6500452a
open Go Go.RowKit
set_option maxRecDepth 100000
set_option maxHeartbeats 20000000
set_option linter.unusedSimpArgs false
set_option linter.unusedVariables false

section
variable {w : World} {G : Nat} {b : LB} {st : Led × Cts} {l : List Item}
theorem fact_it {r a : ByteArray} {e : Int} (h : GT w G b st.1 st.2) (ho : okAll (.fact r a e :: l) st = true) :
    Calls Try.prog 22 #[.pointer (some ⟨G, 0, none⟩), .string r, .string a, .int .i64 e] w fun x w' => x = .returned (.bool true) ∧ ∃ st', okAll l st' = true ∧ GT w' G b st'.1 st'.2 ∧ Fr (SG b G) w w' := by
  obtain ⟨hA, hE, hk⟩ := ok_fact ho
  refine (fact_yes h hA hE).mono ?_
  rintro x w1 ⟨rfl, gt, f⟩
  refine ⟨rfl, nxt st r, hk, ?_, f⟩
  unfold nxt
  rw [hE]
  exact gt
theorem look_it {a : ByteArray} (h : GT w G b st.1 st.2) (ho : okAll (.look a :: l) st = true) {want : ByteArray} (hw : a = want) :
    Calls Try.prog 24 #[.pointer (some ⟨G, 0, none⟩), .string want] w fun x w' => x = .returned (.bool true) ∧ okAll l st = true ∧ GT w' G b st.1 st.2 ∧ Fr (fun _ => False) w w' := by
  obtain ⟨hA, hk⟩ := ok_look ho
  refine (look_yes h (hA.trans hw)).mono ?_
  rintro x w1 ⟨rfl, gt, f⟩
  exact ⟨rfl, hk, gt, f⟩
theorem serve_it {r : ByteArray} (h : GT w G b st.1 st.2) (ho : okAll (.serve r :: l) st = true) :
    Calls Try.prog 19 #[.pointer (some ⟨G, 0, none⟩), .string r] w fun x w' => ∃ (a : ByteArray) (e : Int), x = .returned (.tuple #[.string a, .int .i64 e]) ∧ ∃ st', okAll l st' = true ∧ GT w' G b st'.1 st'.2 ∧ Fr (SG b G) w w' := by
  refine (serve_any h r).mono ?_
  rintro x w1 ⟨rfl, gt, f⟩
  exact ⟨_, _, rfl, nxt st r, ho, gt, f⟩
theorem showG_size (h : GT w G b st.1 st.2) : (showG st.1 st.2).size ≤ 500 := by
  have z1 : (Ia.bs (Ia.itoa (st.2.ok : Int))).size ≤ 21 := by rw [Ia.bs_size]; exact Ia.itoa_len _
  have z2 : (Ia.bs (Ia.itoa (st.2.bad : Int))).size ≤ 21 := by rw [Ia.bs_size]; exact Ia.itoa_len _
  have z3 : (Ia.bs (Ia.itoa (st.2.err : Int))).size ≤ 21 := by rw [Ia.bs_size]; exact Ia.itoa_len _
  have z4 : (Ia.bs (Ia.itoa (st.2.inn : Int))).size ≤ 21 := by rw [Ia.bs_size]; exact Ia.itoa_len _
  have z5 : (L.bs (showD st.1)).size ≤ 300 := by
    rw [Lbs_size]
    have h1 := balL_len st.1.bal 4
    have h2 := Ia.itoa_len (st.1.un : Int)
    have h3 := h.r.rt.ok.len
    simp [showD, L.showL]; omega
  have q : ∀ l : Array UInt8, (⟨l⟩ : ByteArray).size = l.size := fun _ => rfl
  unfold showG showH
  simp only [ba_size, q]
  simp
  omega
theorem pre_it {hd : ByteArray} (h : GT w G b st.1 st.2) (ho : okAll (.pre hd :: l) st = true) :
    Calls Try.prog 23 #[.pointer (some ⟨G, 0, none⟩)] w fun x w' => ∃ sh : ByteArray, x = .returned (.string sh) ∧ hd.size ≤ sh.size ∧ sh.size ≤ 500 ∧ sh.extract 0 hd.size = hd ∧ okAll l st = true ∧ GT w' G b st.1 st.2 ∧ Fr (fun _ => False) w w' := by
  obtain ⟨⟨h1, h2⟩, hk⟩ := ok_pre ho
  refine (gshow_any h).mono ?_
  rintro x w1 ⟨rfl, f⟩
  exact ⟨_, rfl, h1, showG_size h, h2, hk, h.fr f (fun _ _ h => h), f⟩
theorem grab_it (h : GT w G b st.1 st.2) (ho : okAll (.grab :: l) st = true) :
    Calls Try.prog 25 #[.agg #[.pointer (some ⟨b.D, 0, none⟩), .pointer (some ⟨b.T, 0, none⟩)], .int .i64 2] w fun x w' => x = .returned (.int .i64 2) ∧ ∃ st', okAll l st' = true ∧ GT w' G b st'.1 st'.2 ∧ Fr (SG b G) w w' := by
  obtain ⟨h1, hk⟩ := ok_grab ho
  refine (ggrab_any h 2).mono ?_
  rintro x w1 ⟨rfl, gt, f⟩
  rw [h1]
  exact ⟨rfl, grabS st, hk, gt, f⟩
theorem drop_it (h : GT w G b st.1 st.2) (ho : okAll (.drop :: l) st = true) :
    Calls Try.prog 26 #[.agg #[.pointer (some ⟨b.D, 0, none⟩), .pointer (some ⟨b.T, 0, none⟩)], .int .i64 2] w fun x w' => x = .returned (.tuple #[]) ∧ ∃ st', okAll l st' = true ∧ GT w' G b st'.1 st'.2 ∧ Fr (SG b G) w w' := by
  refine (gdrop_any h 2).mono ?_
  rintro x w1 ⟨rfl, gt, f⟩
  exact ⟨rfl, dropS st, ho, gt, f⟩
/-- A fresh service. -/
theorem ready {w0 w1 : World} (F : Fr (fun _ => False) w0 w1) {w2 : World} (hb : ∀ i, SL b i → w1.heap.size ≤ i) (f2 : Fr (fun _ => False) w1 w2) (hG : w2.heap.size ≤ G) : ∀ i, SG b G i → w0.heap.size ≤ i := by
  have z1 := F.size
  have z2 := f2.size
  rintro i (c | c)
  · have := hb i c; omega
  · omega
end

end Go.Proofs.Qxb6500452a
