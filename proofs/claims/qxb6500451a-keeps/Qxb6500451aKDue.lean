/- Keeps: Due. -/
import Derived.Test.Qxb6500451aKLook
namespace Go.Proofs.Qxb6500451a
open Go Go.RowKit
set_option maxRecDepth 100000
set_option maxHeartbeats 1600000
set_option linter.unusedSimpArgs false
set_option linter.unusedVariables false

/-- An error changes nothing. -/
theorem doF_err {f : DocF} (hok : OkF f) {o : Stp} (h : doE f o ≠ 0) : doF f o = f := by
  unfold doE at h
  unfold doF
  by_cases k1 : o.kind = 1
  · rw [if_pos k1] at h ⊢
    unfold putF
    rw [if_neg h]
  rw [if_neg k1] at h ⊢
  by_cases k3 : o.kind = 3
  · rw [if_pos k3]
    rw [if_neg (by omega), if_pos k3] at h
    apply delD_none
    unfold delE at h
    rcases hg : goodB o.a with _ | _
    · exact notGood hok hg
    · rw [hg] at h
      obtain e | ⟨d, e⟩ := opt (f o.a)
      · exact e
      · rw [e] at h; simp at h
  rw [if_neg k3]
  by_cases k4 : o.kind = 4
  · rw [if_neg (by omega), if_neg k3] at h
    exact absurd rfl h
  rw [if_neg k4]
  by_cases k11 : o.kind = 11
  · rw [if_neg (by omega), if_neg k3] at h
    exact absurd rfl h
  rw [if_neg k11]

theorem getP_congr {f f' : DocF} {i : Int} (h : f i = f' i) : getP f i = getP f' i := by unfold getP; rw [h]

theorem due_any {f : DocF} (hok : OkF f) (r : Int → Nat) (o : Stp) {i : Int} (i1 : 1 ≤ i) (i2 : i ≤ 9) (w : World) :
    Calls Try.prog 20 #[o.val, doV f r o, .int .i64 i, docV (getP f i).i (getP f i).g (getP f i).t, .int .i64 (getP f i).e] w fun e w' =>
      e = .returned (.tuple #[docV (getP (doF f o) i).i (getP (doF f o) i).g (getP (doF f o) i).t, .int .i64 (getP (doF f o) i).e]) ∧ Fr (fun _ => False) w w' := by
  have HOK := hid hok
  clear hok
  have fin : ∀ {a b c d : Obj}, Fr (fun _ => False) w ((((w.alloc a).alloc b).alloc c).alloc d) := ((((Fr.refl _ _).alloc _).alloc _).alloc _).alloc _
  have hgi : goodB i = true := by simp [goodB]; omega
  simp only [docV, doV, ansV, Stp.val]
  by_cases h0 : doE f o = 0
  rotate_left
  · have HQ : Hid (getP (doF f o) i = getP f i) := by unfold Hid; rw [doF_err HOK.out h0]
    have hb : ((doE f o) != 0) = true := by simp [h0]
    rw [HQ.out]
    clear HQ h0 hgi
    generalize doE f o = ev at *
    generalize getP f i = q at *
    go_enter Try.func20, Try.ntmps20
    go_wp2_with fail
    exact bodyPost_ret (v := .tuple #[.agg #[.int .i64 q.i, .int .i64 q.g, .string q.t], .int .i64 q.e]) (by simp [results, Try.results20, go_sem]) rfl ⟨rfl, fin⟩
  have hb : ((doE f o) != 0) = false := by simp [h0]
  have H0 := hid h0
  clear h0
  obtain ⟨kind, a, b, c, os, ot⟩ := o
  simp only at *
  by_cases k1 : kind = 1
  · subst k1
    by_cases hi : i = a
    · subst hi
      have HQ : Hid (getP (doF f ⟨1, i, b, c, os, ot⟩) i = ⟨i, b, os, 0⟩) := by
        have h0 : putE f i b os = 0 := by simpa [doE] using H0.out
        simp [Hid, doF, putF, h0, getP, hgi, putD]
      rw [HQ.out]
      clear HQ H0 hgi
      generalize doE f _ = ev at *
      generalize getP f i = q at *
      go_enter Try.func20, Try.ntmps20
      go_wp2_with fail
      exact bodyPost_ret (v := .tuple #[.agg #[.int .i64 i, .int .i64 b, .string os], .int .i64 0]) (by simp [results, Try.results20, go_sem]) rfl ⟨rfl, fin⟩
    · have hib : (i == a) = false := by simp [hi]
      have HQ : Hid (getP (doF f ⟨1, a, b, c, os, ot⟩) i = getP f i) := by
        have h0 : putE f a b os = 0 := by simpa [doE] using H0.out
        apply getP_congr
        simp [doF, putF, h0, putD, hi]
      rw [HQ.out]
      clear HQ H0 hgi hi
      generalize doE f _ = ev at *
      generalize getP f i = q at *
      go_enter Try.func20, Try.ntmps20
      go_wp2_with fail
      exact bodyPost_ret (v := .tuple #[.agg #[.int .i64 q.i, .int .i64 q.g, .string q.t], .int .i64 q.e]) (by simp [results, Try.results20, go_sem]) rfl ⟨rfl, fin⟩
  have j1 : (kind == 1) = false := by simp [k1]
  by_cases k11 : kind = 11
  · subst k11
    have HQ : Hid (getP (doF f ⟨11, a, b, c, os, ot⟩) i = noGot 6) := by simp [Hid, doF, getP, hgi, noD]
    rw [HQ.out]
    clear HQ H0 hgi k1 j1
    generalize doE f _ = ev at *
    generalize getP f i = q at *
    go_enter Try.func20, Try.ntmps20
    go_wp2_with fail
    exact bodyPost_ret (v := .tuple #[.agg #[.int .i64 0, .int .i64 0, .string ⟨#[]⟩], .int .i64 6]) (by simp [results, Try.results20, go_sem]) rfl ⟨rfl, fin⟩
  have j11 : (kind == 11) = false := by simp [k11]
  by_cases k3 : kind = 3
  · subst k3
    by_cases hi : i = a
    · subst hi
      have HQ : Hid (getP (doF f ⟨3, i, b, c, os, ot⟩) i = noGot 6) := by simp [Hid, doF, getP, hgi, delD]
      rw [HQ.out]
      clear HQ H0 hgi k1 k11 j1 j11
      generalize doE f _ = ev at *
      generalize getP f i = q at *
      go_enter Try.func20, Try.ntmps20
      go_wp2_with fail
      exact bodyPost_ret (v := .tuple #[.agg #[.int .i64 0, .int .i64 0, .string ⟨#[]⟩], .int .i64 6]) (by simp [results, Try.results20, go_sem]) rfl ⟨rfl, fin⟩
    · have hib : (i == a) = false := by simp [hi]
      have HQ : Hid (getP (doF f ⟨3, a, b, c, os, ot⟩) i = getP f i) := by
        apply getP_congr
        simp [doF, delD, hi]
      rw [HQ.out]
      clear HQ H0 hgi hi k1 k11 j1 j11
      generalize doE f _ = ev at *
      generalize getP f i = q at *
      go_enter Try.func20, Try.ntmps20
      go_wp2_with fail
      exact bodyPost_ret (v := .tuple #[.agg #[.int .i64 q.i, .int .i64 q.g, .string q.t], .int .i64 q.e]) (by simp [results, Try.results20, go_sem]) rfl ⟨rfl, fin⟩
  have j3 : (kind == 3) = false := by simp [k3]
  by_cases k4 : kind = 4
  · subst k4
    by_cases hg : (getP f i).g = a
    · have HQ : Hid (getP (doF f ⟨4, a, b, c, os, ot⟩) i = noGot 6) := by
        rcases getP_good (f := f) i1 i2 with ⟨e1, e2⟩ | ⟨d, e1, e2⟩
        · simp [Hid, doF, getP, hgi, dropD, has, e1]
        · rw [e2] at hg
          simp only at hg
          simp [Hid, doF, getP, hgi, dropD, has, e1, hg]
      have hgb : ((getP f i).g == a) = true := by simp [hg]
      rw [HQ.out]
      clear HQ H0 hgi k1 k11 k3 j1 j11 j3 hg
      generalize doE f _ = ev at *
      generalize getP f i = q at *
      go_enter Try.func20, Try.ntmps20
      go_wp2_with fail
      exact bodyPost_ret (v := .tuple #[.agg #[.int .i64 0, .int .i64 0, .string ⟨#[]⟩], .int .i64 6]) (by simp [results, Try.results20, go_sem]) rfl ⟨rfl, fin⟩
    · have HQ : Hid (getP (doF f ⟨4, a, b, c, os, ot⟩) i = getP f i) := by
        apply getP_congr
        rcases getP_good (f := f) i1 i2 with ⟨e1, e2⟩ | ⟨d, e1, e2⟩
        · simp [doF, dropD, has, e1]
        · rw [e2] at hg
          simp only at hg
          simp [doF, dropD, has, e1, hg]
      have hgb : ((getP f i).g == a) = false := by simp [hg]
      rw [HQ.out]
      clear HQ H0 hgi k1 k11 k3 j1 j11 j3 hg
      generalize doE f _ = ev at *
      generalize getP f i = q at *
      go_enter Try.func20, Try.ntmps20
      go_wp2_with fail
      exact bodyPost_ret (v := .tuple #[.agg #[.int .i64 q.i, .int .i64 q.g, .string q.t], .int .i64 q.e]) (by simp [results, Try.results20, go_sem]) rfl ⟨rfl, fin⟩
  have j4 : (kind == 4) = false := by simp [k4]
  have HQ : Hid (getP (doF f ⟨kind, a, b, c, os, ot⟩) i = getP f i) := by simp [Hid, doF, k1, k3, k4, k11]
  rw [HQ.out]
  clear HQ H0 hgi k1 k11 k3 k4
  generalize doE f _ = ev at *
  generalize getP f i = q at *
  go_enter Try.func20, Try.ntmps20
  go_wp2_with fail
  exact bodyPost_ret (v := .tuple #[.agg #[.int .i64 q.i, .int .i64 q.g, .string q.t], .int .i64 q.e]) (by simp [results, Try.results20, go_sem]) rfl ⟨rfl, fin⟩

end Go.Proofs.Qxb6500451a
