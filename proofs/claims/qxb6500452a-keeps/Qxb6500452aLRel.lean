import Derived.Test.Qxb6500452aLAcq
namespace Go.Proofs.Qxb6500452a
open Go Go.RowKit
set_option maxRecDepth 100000
set_option maxHeartbeats 400000
set_option linter.unusedSimpArgs false

theorem RT.given {w : World} {bT bC bR : Nat} {s : L.St} (h : RT w bT bC bR s) {k : Nat} (hk : k < 4) (ho : s.op k = true) :
    RT (((w.setCell ⟨bC, k * 2, none⟩ (.int .i64 (-1))).setCell ⟨bC, k * 2 + 1, none⟩ (.int .i64 (((s.gen k : Int) + 1) % 4))).setCell ⟨bT, 1, none⟩ (.int .i64 ((s.cnt : Int) - 1)))
      bT bC bR ⟨L.updB s.op k false, L.updN s.gen k ((s.gen k + 1) % 4), s.tr⟩ := by
  obtain ⟨buf, hl, ht, hb⟩ := h.rb
  have hc := L.cnt_give hk ho
  have hok := L.give_ok h.ok k
  have nT : ∀ {o v} (x y z : Value), o ≠ 1 → At w bT o v → At (((w.setCell ⟨bC, k * 2, none⟩ x).setCell ⟨bC, k * 2 + 1, none⟩ y).setCell ⟨bT, 1, none⟩ z) bT o v := fun x y z ho hh =>
    ((hh.other (fun e => absurd e.symm h.n1) x).other (fun e => absurd e.symm h.n1) y).other (by omega) z
  refine ⟨nT _ _ _ (by omega) h.t0, ?_, nT _ _ _ (by omega) h.t2, nT _ _ _ (by omega) h.t3, fun j hj => ?_, fun j hj => ?_, ⟨buf, hl, ht, fun j hj => ?_⟩, h.n1, h.n2, h.n3, ⟨hok.gen, h.ok.len, h.ok.even⟩⟩
  · refine (((h.t1.other (fun e => absurd e.symm h.n1) _).other (fun e => absurd e.symm h.n1) _).same _).val ?_
    have : (⟨L.updB s.op k false, L.updN s.gen k ((s.gen k + 1) % 4), s.tr⟩ : L.St).cnt + 1 = s.cnt := hc
    congr 1
    omega
  · refine At.other ?_ (fun e => absurd e h.n1) _
    refine At.other ?_ (by omega) _
    by_cases e : j = k
    · subst e
      exact ((h.co j hj).same _).val (by rw [show (⟨L.updB s.op j false, L.updN s.gen j ((s.gen j + 1) % 4), s.tr⟩ : L.St).hdl j = (L.give s j).hdl j from rfl, L.hdl_give_same])
    · exact ((h.co j hj).other (by omega) _).val (by rw [show (⟨L.updB s.op k false, L.updN s.gen k ((s.gen k + 1) % 4), s.tr⟩ : L.St).hdl j = (L.give s k).hdl j from rfl, L.hdl_give_other _ e])
  · refine At.other ?_ (fun e => absurd e h.n1) _
    by_cases e : j = k
    · subst e
      exact (((h.cg j hj).other (by omega) _).same _).val (by simp [L.updN])
    · exact (((h.cg j hj).other (by omega) _).other (by omega) _).val (by simp [L.updN, e])
  · exact (((hb j hj).other (fun e => absurd e h.n3) _).other (fun e => absurd e h.n3) _).other (fun e => absurd e h.n2) _

theorem release_any {w : World} {bT bC bR : Nat} {s : L.St} (h : RT w bT bC bR s) (k : Int) :
    Calls Try.prog 50 #[.pointer (some ⟨bT, 0, none⟩), .int .i64 k] w fun e w' => e = .returned (.int .i64 (L.rel s k).1) ∧
      RT w' bT bC bR (L.rel s k).2 ∧ Fr (S3 bT bC bR) w w' := by
  by_cases hg : 0 ≤ k ∧ k < 16
  · obtain ⟨m, rfl⟩ := Int.eq_ofNat_of_zero_le hg.1
    obtain ⟨n, hmn⟩ : ∃ n, n = m % 4 := ⟨_, rfl⟩
    have hn : n < 4 := by omega
    have hm4 : ((m : Int) % 4) = (n : Int) := by omega
    have hk0 := hg.1
    have hk1 := hg.2
    have hn0 : (0 : Int) ≤ (n : Int) := by omega
    have hn1 : (n : Int) < 4 := by omega
    have t0 := h.t0.c
    have t1 := h.t1.c
    have f1 := h.t1.f
    have co := (h.co n hn).c
    have cf := (h.co n hn).f
    have cg := (h.cg n hn).c
    have cgf := (h.cg n hn).f
    have hne := h.n1
    have hne' := Ne.symm h.n1
    have hgl := h.ok.gen n hn
    have hgl' : (s.gen n : Int) < 4 := by omega
    have hcl := L.cnt_le s
    have hcl' : (s.cnt : Int) ≤ 4 := by omega
    have hN : ((m : Int) % 4).toNat = n := by omega
    by_cases ho : s.hdl n = (m : Int)
    · have HF : Hid (L.rel s m = (0, L.give s n)) := by unfold Hid L.rel; rw [if_pos hg, hN, if_pos ho]
      have hop : s.op n = true := L.op_of_hdl hk0 ho
      have H : Hid (RT w bT bC bR s) := h
      have HO : Hid (s.op n = true) := hop
      rw [ho] at co
      clear h hop ho hmn hN
      go_enter Try.func50, Try.ntmps50
      go_wp2_with fail
      go_region
      go_wp2_with (go_at_call 74; refine (note_any (H.out.given hn HO.out).drew 82 n hn).mono ?_; rintro e w1 ⟨rfl, hr, hf⟩)
      go_ret
      rw [HF.out]
      exact ⟨rfl, hr, ((((Fr.refl _ _).setCell (fun _ => by simp [S3]) _).setCell (fun _ => by simp [S3]) _).setCell (fun _ => by simp [S3]) _).drew.trans hf⟩
    · have HF : Hid (L.rel s m = (5, s)) := by unfold Hid L.rel; rw [if_pos hg, hN, if_neg ho]
      have H : Hid (RT w bT bC bR s) := h
      have hb : (s.hdl n != (m : Int)) = true := by simpa using ho
      clear h ho hmn hN
      go_enter Try.func50, Try.ntmps50
      go_wp2_with fail
      go_ret
      rw [HF.out]
      exact ⟨rfl, H.out, Fr.refl _ _⟩
  · have HF : Hid (L.rel s k = (2, s)) := by unfold Hid L.rel; rw [if_neg hg]
    by_cases hlt : k < 0
    · go_enter Try.func50, Try.ntmps50
      go_wp2_with fail
      go_ret
      rw [HF.out]
      exact ⟨rfl, h, Fr.refl _ _⟩
    · have h0 : 0 ≤ k := by omega
      have h1 : 16 ≤ k := by omega
      go_enter Try.func50, Try.ntmps50
      go_wp2_with fail
      go_ret
      rw [HF.out]
      exact ⟨rfl, h, Fr.refl _ _⟩
end Go.Proofs.Qxb6500452a
