import Derived.Test.Qxb6500452aLNote
namespace Go.Proofs.Qxb6500452a
open Go Go.RowKit
set_option maxRecDepth 100000
set_option maxHeartbeats 400000
set_option linter.unusedSimpArgs false

def goodB (k : Int) : Bool := decide (0 ≤ k ∧ k < 4)

theorem good_any (k : Int) (w : World) : Calls Try.prog 73 #[.int .i64 k] w fun e w' => e = .returned (.bool (goodB k)) ∧ w' = w := by
  by_cases h : 0 ≤ k
  · by_cases h2 : k < 4
    · go_enter Try.func73, Try.ntmps73
      go_wp2
      go_ret
      simp [goodB, h, h2]
    · go_enter Try.func73, Try.ntmps73
      go_wp2
      go_ret
      simp [goodB, *] 
  · have h' : k < 0 := by omega
    go_enter Try.func73, Try.ntmps73
    go_wp2
    go_ret
    refine ⟨?_, rfl⟩
    have : goodB k = false := by simp [goodB]; omega
    rw [this]; rfl

theorem RT.cleared {w : World} {bT bC bR : Nat} {s : L.St} (h : RT w bT bC bR s) : RT (w.setCell ⟨bT, 3, none⟩ (.int .i64 0)) bT bC bR (L.clear s) := by
  obtain ⟨buf, hl, ht, hb⟩ := h.rb
  exact ⟨h.t0.other (by omega) _, h.t1.other (by omega) _, h.t2.other (by omega) _, h.t3.same _, fun k hk => (h.co k hk).other (fun e => absurd e h.n1) _,
    fun k hk => (h.cg k hk).other (fun e => absurd e h.n1) _, ⟨buf, hl, by simp [L.clear], fun j hj => (hb j hj).other (fun e => absurd e h.n2) _⟩, h.n1, h.n2, h.n3, L.clear_ok h.ok⟩

theorem clear_any {w : World} {bT bC bR : Nat} {s : L.St} (h : RT w bT bC bR s) :
    Calls Try.prog 78 #[.pointer (some ⟨bT, 0, none⟩)] w fun e w' => e = .returned (.tuple #[]) ∧ RT w' bT bC bR (L.clear s) ∧ Fr (S3 bT bC bR) w w' := by
  have c3 := h.t3.c
  have f3 := h.t3.f
  go_enter Try.func78, Try.ntmps78
  go_wp2
  go_end0
  exact ⟨rfl, h.cleared, (Fr.refl _ _).setCell (fun _ => by simp [S3]) _⟩

theorem held_any {w : World} {bT bC bR : Nat} {s : L.St} (h : RT w bT bC bR s) :
    Calls Try.prog 92 #[.pointer (some ⟨bT, 0, none⟩)] w fun e w' => e = .returned (.int .i64 (s.cnt : Int)) ∧ w' = w := by
  have c3 := h.t1.c
  go_enter Try.func92, Try.ntmps92
  go_wp2
  go_ret
  exact ⟨rfl, rfl⟩

theorem RT.taken {w : World} {bT bC bR : Nat} {s : L.St} (h : RT w bT bC bR s) {k : Nat} (hk : k < 4) (ho : s.op k = false) :
    RT ((w.setCell ⟨bC, k * 2, none⟩ (.int .i64 ((k : Int) + 4 * (s.gen k : Int)))).setCell ⟨bT, 1, none⟩ (.int .i64 ((s.cnt : Int) + 1))) bT bC bR ⟨L.updB s.op k true, s.gen, s.tr⟩ := by
  obtain ⟨buf, hl, ht, hb⟩ := h.rb
  have hc := L.cnt_take hk ho
  have nT : ∀ {o v} (x y : Value), o ≠ 1 → At w bT o v → At ((w.setCell ⟨bC, k * 2, none⟩ x).setCell ⟨bT, 1, none⟩ y) bT o v := fun x y ho hh =>
    (hh.other (fun e => absurd e.symm h.n1) x).other (by omega) y
  refine ⟨nT _ _ (by omega) h.t0, ?_, nT _ _ (by omega) h.t2, nT _ _ (by omega) h.t3, fun j hj => ?_, fun j hj => ?_, ⟨buf, hl, ht, fun j hj => ?_⟩, h.n1, h.n2, h.n3, ⟨h.ok.gen, h.ok.len, h.ok.even⟩⟩
  · exact ((h.t1.other (fun e => absurd e.symm h.n1) _).same _).val (by have : (⟨L.updB s.op k true, s.gen, s.tr⟩ : L.St).cnt = s.cnt + 1 := hc; rw [this]; simp)
  · refine At.other ?_ (fun e => absurd e h.n1) _
    by_cases e : j = k
    · subst e
      exact ((h.co j hj).same _).val (by rw [show (⟨L.updB s.op j true, s.gen, s.tr⟩ : L.St).hdl j = (L.take s j).hdl j from rfl, L.hdl_take_same])
    · exact ((h.co j hj).other (by omega) _).val (by rw [show (⟨L.updB s.op k true, s.gen, s.tr⟩ : L.St).hdl j = (L.take s k).hdl j from rfl, L.hdl_take_other _ e])
  · exact ((h.cg j hj).other (by omega) _).other (fun e => absurd e h.n1) _
  · exact ((hb j hj).other (fun e => absurd e h.n3) _).other (fun e => absurd e h.n2) _

theorem acquire_any {w : World} {bT bC bR : Nat} {s : L.St} (h : RT w bT bC bR s) (k : Int) :
    Calls Try.prog 49 #[.pointer (some ⟨bT, 0, none⟩), .int .i64 k] w fun e w' => e = .returned (.tuple #[.int .i64 (L.acq s k).1, .int .i64 (L.acq s k).2.1]) ∧
      RT w' bT bC bR (L.acq s k).2.2 ∧ Fr (S3 bT bC bR) w w' := by
  by_cases hg : 0 ≤ k ∧ k < 4
  · have hgb : goodB k = true := by simp [goodB, hg]
    obtain ⟨n, rfl⟩ := Int.eq_ofNat_of_zero_le hg.1
    have hn : n < 4 := by omega
    have hk0 := hg.1
    have hk1 := hg.2
    have t0 := h.t0.c
    have t1 := h.t1.c
    have f1 := h.t1.f
    have co := (h.co n hn).c
    have cf := (h.co n hn).f
    have cg := (h.cg n hn).c
    have hne := h.n1
    have hne' := Ne.symm h.n1
    have hgl := h.ok.gen n hn
    have hgl' : (s.gen n : Int) < 4 := by omega
    have hcl := L.cnt_le s
    have hcl' : (s.cnt : Int) ≤ 4 := by omega
    by_cases ho : s.op n = true
    · have hh : 0 ≤ s.hdl n := L.hdl_nonneg.2 ho
      have HF : Hid (L.acq s n = (0, 4, s)) := by unfold Hid L.acq; rw [if_pos hg]; simp [ho]
      go_enter Try.func49, Try.ntmps49
      go_wp2_with (go_at_call 73; refine (good_any _ _).mono ?_; rintro e w' ⟨rfl, rfl⟩)
      go_ret2
      rw [HF.out]
      exact ⟨rfl, h, Fr.refl _ _⟩
    · have ho' : s.op n = false := by simpa using ho
      have hh : s.hdl n = -1 := L.hdl_free ho'
      rw [hh] at co
      have HF : Hid (L.acq s n = ((n : Int) + 4 * (s.gen n : Int), 0, L.take s n)) := by unfold Hid L.acq; rw [if_pos hg]; simp [ho]
      have H : Hid (RT w bT bC bR s) := h
      have HO : Hid (s.op n = false) := ho'
      clear h ho ho' hh
      go_enter Try.func49, Try.ntmps49
      go_wp2_with (first | (go_at_call 73; refine (good_any _ _).mono ?_; rintro e w' ⟨rfl, rfl⟩) | (go_at_call 74; refine (note_any (s := ⟨L.updB s.op n true, s.gen, s.tr⟩) (H.out.taken hn HO.out) 65 n hn).mono ?_; rintro e w1 ⟨rfl, hr, hf⟩))
      go_ret2
      rw [HF.out]
      exact ⟨rfl, hr, (((Fr.refl _ _).setCell (fun _ => by simp [S3]) _).setCell (fun _ => by simp [S3]) _).trans hf⟩
  · have hgb : goodB k = false := by simp [goodB]; omega
    have HF : Hid (L.acq s k = (0, 2, s)) := by unfold Hid L.acq; rw [if_neg hg]
    go_enter Try.func49, Try.ntmps49
    go_wp2_with (go_at_call 73; refine (good_any _ _).mono ?_; rintro e w' ⟨rfl, rfl⟩)
    go_ret2
    rw [HF.out]
    exact ⟨rfl, h, Fr.refl _ _⟩
end Go.Proofs.Qxb6500452a
