/- What Transfer and Census leave of the locks: plain facts. -/
import Derived.Test.Qxb6500452aZPlain
namespace Go.Proofs.Qxb6500452a
open Go Go.RowKit
set_option maxRecDepth 100000
set_option maxHeartbeats 1600000
set_option linter.unusedSimpArgs false
set_option linter.unusedVariables false

def lon (f t : Nat) : Nat := if t < f then t else f
def hin (f t : Nat) : Nat := if t < f then f else t
theorem lon_lt {f t : Nat} (hf : f < 4) (ht : t < 4) : lon f t < 4 ∧ hin f t < 4 := by unfold lon hin; split <;> omega
theorem lon_ne {f t : Nat} (h : f ≠ t) : lon f t ≠ hin f t := by unfold lon hin; split <;> omega
theorem lon_int (f t : Nat) : (L.lo (f : Int) (t : Int)).toNat = lon f t ∧ (L.hi (f : Int) (t : Int)).toNat = hin f t := by
  unfold L.lo L.hi lon hin
  by_cases h : t < f
  · have : (t : Int) < (f : Int) := by omega
    simp [h, this]
  · have : ¬ (t : Int) < (f : Int) := by omega
    simp [h, this]
theorem pair_lo {st : L.St} {f t : Nat} (hf : f < 4) (ht : t < 4) (hne : f ≠ t) (ho : st.op (lon f t) = true) : L.pair st (f : Int) (t : Int) = (0, 0, 4, st) := by
  unfold L.pair
  rw [if_pos ⟨by omega, by omega⟩, if_pos ⟨by omega, by omega⟩, if_neg (by omega), (lon_int f t).1, if_pos ho]
theorem pair_hi {st : L.St} {f t : Nat} (hf : f < 4) (ht : t < 4) (hne : f ≠ t) (ho : st.op (lon f t) = false) (hh : st.op (hin f t) = true) : L.pair st (f : Int) (t : Int) = (0, 0, 4, L.give (L.take st (lon f t)) (lon f t)) := by
  unfold L.pair
  rw [if_pos ⟨by omega, by omega⟩, if_pos ⟨by omega, by omega⟩, if_neg (by omega), (lon_int f t).1, (lon_int f t).2, if_neg (by simp [ho]), if_pos hh]
theorem pair_ok {st : L.St} {f t : Nat} (hf : f < 4) (ht : t < 4) (hne : f ≠ t) (ho : st.op (lon f t) = false) (hh : st.op (hin f t) = false) : L.pair st (f : Int) (t : Int) = (hnd st.gen f, hnd st.gen t, 0, L.take (L.take st (lon f t)) (hin f t)) := by
  unfold L.pair
  rw [if_pos ⟨by omega, by omega⟩, if_pos ⟨by omega, by omega⟩, if_neg (by omega), (lon_int f t).1, (lon_int f t).2, if_neg (by simp [ho]), if_neg (by simp [hh])]
  simp [hnd]

theorem two_op {st : L.St} {f t : Nat} (k : Nat) : (L.take (L.take st (lon f t)) (hin f t)).op k = (st.op k || decide (k = f ∨ k = t)) := by
  show L.updB (L.updB st.op (lon f t) true) (hin f t) true k = _
  simp only [L.updB, lon, hin]
  by_cases h : t < f
  · simp only [h, if_true]
    by_cases c1 : k = f
    · simp [c1]
    · by_cases c2 : k = t
      · simp [c2]
      · simp [c1, c2]
  · simp only [h, if_false]
    by_cases c1 : k = f
    · simp [c1]
    · by_cases c2 : k = t
      · simp [c2]
      · simp [c1, c2]
theorem both_free {st : L.St} {f t : Nat} (ho : st.op (lon f t) = false) (hh : st.op (hin f t) = false) : st.op f = false ∧ st.op t = false := by
  unfold lon at ho
  unfold hin at hh
  by_cases h : t < f
  · rw [if_pos h] at ho hh; exact ⟨hh, ho⟩
  · rw [if_neg h] at ho hh; exact ⟨ho, hh⟩

/-- Transfer, both locks free. -/
theorem tr_free {st : L.St} (ok : st.Ok) (h0 : st.tr = []) {f t : Nat} (hf : f < 4) (ht : t < 4) (hne : f ≠ t) (ho : st.op (lon f t) = false) (hh : st.op (hin f t) = false) :
    Kept st (relAll [(L.pair st (f : Int) (t : Int)).2.1, (L.pair st (f : Int) (t : Int)).1] (L.pair st (f : Int) (t : Int)).2.2.2) ∧
    (relAll [(L.pair st (f : Int) (t : Int)).2.1, (L.pair st (f : Int) (t : Int)).1] (L.pair st (f : Int) (t : Int)).2.2.2).tr = [65, L.dig (lon f t), 65, L.dig (hin f t)] ++ [82, L.dig t, 82, L.dig f] := by
  rw [pair_ok hf ht hne ho hh]
  simp only
  have htr : (L.take (L.take st (lon f t)) (hin f t)).tr = [65, L.dig (lon f t), 65, L.dig (hin f t)] := by
    show L.noteL (L.noteL st.tr 65 (lon f t)) 65 (hin f t) = _
    rw [h0]; rfl
  obtain ⟨ff, tf⟩ := both_free ho hh
  obtain ⟨i1, i2, i3⟩ := rel_all st.gen (fun k => by by_cases c : k < 4; exact .inl (ok.gen k c); exact .inr (by omega)) [t, f] (L.take (L.take st (lon f t)) (hin f t)) (by simp [Ne.symm hne]) (fun k hk => by
    have hk' : k = t ∨ k = f := by simpa using hk
    refine ⟨by omega, ?_, rfl⟩
    rw [two_op]
    simp; right; omega) (by rw [htr]; simp)
  simp only [List.map_cons, List.map_nil] at i1 i2 i3
  refine ⟨⟨?_, fun k hk => ?_⟩, by rw [i3, htr]; rfl⟩
  · funext k
    rw [i1, two_op]
    by_cases c1 : k = f
    · subst c1; simp [ff]
    · by_cases c2 : k = t
      · subst c2; simp [tf]
      · simp [c1, c2]
  · have c1 : k ≠ f := fun e => by subst e; rw [ff] at hk; cases hk
    have c2 : k ≠ t := fun e => by subst e; rw [tf] at hk; cases hk
    rw [i2 k (by simp [c1, c2])]
    rfl

/-- Census under way. -/
def cev : Nat → List UInt8
  | 0 => []
  | k + 1 => cev k ++ [65, L.dig k, 82, L.dig k]
theorem cev_len : ∀ k, (cev k).length = 4 * k
  | 0 => rfl
  | k + 1 => by simp [cev, cev_len k]; omega
def sumB (bal : Nat → Int) : Nat → Int
  | 0 => 0
  | k + 1 => sumB bal k + bal k
structure CK (s : Led) (k : Nat) (lk : L.St) : Prop where
  kp : Kept s.lk lk
  ok : lk.Ok
  tr : lk.tr = cev k
  ce : cenL s.bal (4 - k) k lk (sumB s.bal k) = cenA s
theorem ck_start {s : Led} (ok : s.lk.Ok) : CK s 0 (L.clear s.lk) := ⟨kept_clear _, L.clear_ok ok, rfl, rfl⟩
theorem CK.next {s : Led} {k : Nat} {lk : L.St} (h : CK s k lk) (hk : k < 4) (ho : s.lk.op k = false) : CK s (k + 1) (L.give (L.take lk k) k) := by
  have ho' : lk.op k = false := by rw [h.kp.op]; exact ho
  refine ⟨h.kp.trans (kept_one ho'), L.give_ok (L.take_ok h.ok k) k, ?_, ?_⟩
  · rw [one_tr (by rw [h.tr, cev_len]; omega), h.tr]; rfl
  · rw [← h.ce]
    have e : 4 - k = (4 - (k + 1)) + 1 := by omega
    rw [e]
    have c1 : cen1 s.bal lk k (sumB s.bal k) = (sumB s.bal k + s.bal k, 0, L.give (L.take lk k) k) := by
      have ha := acq_take hk ho'
      have ho1 := one_state h.ok hk ho'
      unfold cen1
      rw [if_pos (by rw [ha]), ho1]
    show _ = (if (cen1 s.bal lk k (sumB s.bal k)).2.1 = 0 then cenL s.bal (4 - (k + 1)) (k + 1) (cen1 s.bal lk k (sumB s.bal k)).2.2 (cen1 s.bal lk k (sumB s.bal k)).1 else cen1 s.bal lk k (sumB s.bal k))
    rw [c1, if_pos rfl]
    rfl
theorem CK.held {s : Led} {k : Nat} {lk : L.St} (h : CK s k lk) (hk : k < 4) (ho : s.lk.op k = true) : cenA s = (0, 4, lk) := by
  have ho' : lk.op k = true := by rw [h.kp.op]; exact ho
  rw [← h.ce]
  have e : 4 - k = (4 - (k + 1)) + 1 := by omega
  rw [e]
  have c1 : cen1 s.bal lk k (sumB s.bal k) = (0, 4, lk) := by
    unfold cen1
    rw [acq_held hk ho', if_neg (by simp)]
  show (if (cen1 s.bal lk k (sumB s.bal k)).2.1 = 0 then cenL s.bal (4 - (k + 1)) (k + 1) (cen1 s.bal lk k (sumB s.bal k)).2.2 (cen1 s.bal lk k (sumB s.bal k)).1 else cen1 s.bal lk k (sumB s.bal k)) = _
  rw [c1, if_neg (by simp)]
theorem CK.done {s : Led} {lk : L.St} (h : CK s 4 lk) (ht : sum4 s.bal = 400) : cenA s = (400, 0, lk) := by
  rw [← h.ce]
  show (sumB s.bal 4, (0 : Int), lk) = _
  have : sumB s.bal 4 = 400 := by
    simp only [sumB]
    unfold sum4 at ht
    omega
  rw [this]

end Go.Proofs.Qxb6500452a
