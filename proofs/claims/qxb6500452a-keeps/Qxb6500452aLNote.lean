import Derived.Test.Qxb6500452aProg
import Derived.Test.Qxb6500452aLBase
import Derived.Test.Qxb6500452aLPlain
namespace Go.Proofs.Qxb6500452a
open Go Go.RowKit
set_option maxRecDepth 100000
set_option maxHeartbeats 400000
set_option linter.unusedSimpArgs false

def S3 (a b c : Nat) : Nat → Prop := fun i => i = a ∨ i = b ∨ i = c

structure RT (w : World) (bT bC bR : Nat) (s : L.St) : Prop where
  t0 : At w bT 0 (.slice (some ⟨bC, 0, none⟩) 4 4)
  t1 : At w bT 1 (.int .i64 (s.cnt : Int))
  t2 : At w bT 2 (.slice (some ⟨bR, 0, none⟩) 24 24)
  t3 : At w bT 3 (.int .i64 (s.tr.length : Int))
  co : ∀ k, k < 4 → At w bC (k * 2) (.int .i64 (s.hdl k))
  cg : ∀ k, k < 4 → At w bC (k * 2 + 1) (.int .i64 (s.gen k : Int))
  rb : ∃ buf : List UInt8, buf.length = 24 ∧ buf.take s.tr.length = s.tr ∧ ∀ j, j < 24 → At w bR j (.int .u8 ((buf.getD j 0).toNat : Int))
  n1 : bT ≠ bC
  n2 : bT ≠ bR
  n3 : bC ≠ bR
  ok : s.Ok

theorem RT.drew {w : World} {bT bC bR : Nat} {s : L.St} (h : RT w bT bC bR s) : RT w.drew bT bC bR s :=
  ⟨h.t0.drew, h.t1.drew, h.t2.drew, h.t3.drew, fun k hk => (h.co k hk).drew, fun k hk => (h.cg k hk).drew,
    by obtain ⟨buf, h1, h2, h3⟩ := h.rb; exact ⟨buf, h1, h2, fun j hj => (h3 j hj).drew⟩, h.n1, h.n2, h.n3, h.ok⟩

theorem RT.drewN {w : World} {bT bC bR : Nat} {s : L.St} (h : RT w bT bC bR s) (n : Nat) : RT (w.drewN n) bT bC bR s :=
  ⟨h.t0.drewN n, h.t1.drewN n, h.t2.drewN n, h.t3.drewN n, fun k hk => (h.co k hk).drewN n, fun k hk => (h.cg k hk).drewN n,
    by obtain ⟨buf, h1, h2, h3⟩ := h.rb; exact ⟨buf, h1, h2, fun j hj => (h3 j hj).drewN n⟩, h.n1, h.n2, h.n3, h.ok⟩

theorem RT.fr {w w' : World} {bT bC bR : Nat} {s : L.St} (h : RT w bT bC bR s) {S : Nat → Prop} (hf : Fr S w w') (hT : ¬ S bT) (hC : ¬ S bC) (hR : ¬ S bR) : RT w' bT bC bR s :=
  ⟨h.t0.fr hf hT, h.t1.fr hf hT, h.t2.fr hf hT, h.t3.fr hf hT, fun k hk => (h.co k hk).fr hf hC, fun k hk => (h.cg k hk).fr hf hC,
    by obtain ⟨buf, h1, h2, h3⟩ := h.rb; exact ⟨buf, h1, h2, fun j hj => (h3 j hj).fr hf hR⟩, h.n1, h.n2, h.n3, h.ok⟩

theorem take_append_set (buf tr : List UInt8) (c d : UInt8) (n : Nat) (hn : tr.length = n) (hb : n + 1 < buf.length) (ht : buf.take n = tr) :
    (((buf.set n c).set (n + 1) d).take (n + 2)) = tr ++ [c, d] := by
  apply List.ext_getElem
  · simp; omega
  · intro i h1 h2
    simp only [List.getElem_take, List.getElem_append, List.getElem_set]
    simp at h1
    by_cases h : i < n
    · rw [dif_pos (by omega), if_neg (by omega), if_neg (by omega)]
      simp only [← ht, List.getElem_take]
    · rw [dif_neg (by omega)]
      have : i = n ∨ i = n + 1 := by omega
      rcases this with e | e <;> subst e <;> simp [hn]

/-- Two bytes laid behind the trace. -/
theorem RT.noted {w : World} {bT bC bR : Nat} {s : L.St} (h : RT w bT bC bR s) (c : UInt8) (k n : Nat) (hk : k < 4) (hn : s.tr.length = n) (hlt : n < 24) :
    RT (((w.setCell ⟨bR, n, none⟩ (.int .u8 (c.toNat : Int))).setCell ⟨bR, n + 1, none⟩ (.int .u8 (48 + (k : Int)))).setCell ⟨bT, 3, none⟩ (.int .i64 ((n : Int) + 2)))
      bT bC bR ⟨s.op, s.gen, L.noteL s.tr c k⟩ := by
  obtain ⟨buf, hl, ht, hb⟩ := h.rb
  have hev := h.ok.even
  have hlen := h.ok.len
  have nT : ∀ {o v} (i j : Nat) (x y : Value), At w bT o v → At ((w.setCell ⟨bR, i, none⟩ x).setCell ⟨bR, j, none⟩ y) bT o v := fun i j x y hh =>
    (hh.other (fun e => absurd e.symm h.n2) x).other (fun e => absurd e.symm h.n2) y
  have nC : ∀ {o v} (i j : Nat) (x y z : Value), At w bC o v → At (((w.setCell ⟨bR, i, none⟩ x).setCell ⟨bR, j, none⟩ y).setCell ⟨bT, 3, none⟩ z) bC o v := fun i j x y z hh =>
    ((hh.other (fun e => absurd e.symm h.n3) x).other (fun e => absurd e.symm h.n3) y).other (fun e => absurd e h.n1) z
  have e1 : L.noteL s.tr c k = s.tr ++ [c, L.dig k] := by simp [L.noteL, hn, hlt]
  have e2 : (L.noteL s.tr c k).length = n + 2 := by rw [e1]; simp [hn]
  refine ⟨(nT _ _ _ _ h.t0).other (by omega) _, (nT _ _ _ _ h.t1).other (by omega) _, (nT _ _ _ _ h.t2).other (by omega) _, ?_,
    fun j hj => nC _ _ _ _ _ (h.co j hj), fun j hj => nC _ _ _ _ _ (h.cg j hj), ?_, h.n1, h.n2, h.n3, ?_⟩
  · exact ((nT _ _ _ _ h.t3).same _).val (by show _ = Value.int .i64 (((L.noteL s.tr c k).length : Nat) : Int); rw [e2]; simp)
  · refine ⟨(buf.set n c).set (n + 1) (L.dig k), by simp [hl], ?_, fun j hj => ?_⟩
    · show List.take (L.noteL s.tr c k).length _ = L.noteL s.tr c k
      rw [e2, e1]
      exact take_append_set buf s.tr c _ n hn (by omega) (hn ▸ ht)
    · refine At.other ?_ (fun e => absurd e h.n2) _
      by_cases j1 : j = n + 1
      · subst j1
        refine (At.same ((hb (n + 1) hj).other (by omega) _) _).val ?_
        have : (((buf.set n c).set (n + 1) (L.dig k)).getD (n + 1) 0) = L.dig k := by rw [List.getD_eq_getElem?_getD, List.getElem?_set_self (by simp [hl]; omega)]; rfl
        rw [this]
        simp [L.dig]; omega
      · by_cases j2 : j = n
        · subst j2
          refine (At.same (hb j hj) _).other (by omega) _ |>.val ?_
          have : (((buf.set j c).set (j + 1) (L.dig k)).getD j 0) = c := by simp [List.getD, List.getElem?_set, hl, hlt]
          rw [this]
        · refine (At.other (At.other (hb j hj) (by omega) _) (by omega) _).val ?_
          have : (((buf.set n c).set (n + 1) (L.dig k)).getD j 0) = buf.getD j 0 := by
            simp only [List.getD]; rw [List.getElem?_set_ne (by omega), List.getElem?_set_ne (by omega)]
          rw [this]
  · exact ⟨h.ok.gen, (L.noteL_len c k hlen hev).1, (L.noteL_len c k hlen hev).2⟩

theorem note_any {w : World} {bT bC bR : Nat} {s : L.St} (h : RT w bT bC bR s) (c : UInt8) (k : Nat) (hk : k < 4) :
    Calls Try.prog 74 #[.pointer (some ⟨bT, 0, none⟩), .int .u8 (c.toNat : Int), .int .i64 k] w fun e w' => e = .returned (.tuple #[]) ∧
      RT w' bT bC bR ⟨s.op, s.gen, L.noteL s.tr c k⟩ ∧ Fr (S3 bT bC bR) w w' := by
  obtain ⟨buf, hl, ht, hb⟩ := h.rb
  have c2 := h.t2.c
  have c3 := h.t3.c
  have f3 := h.t3.f
  have hne := h.n2
  have hne' := Ne.symm h.n2
  have hlen := h.ok.len
  have hev := h.ok.even
  have hk' : (k : Int) < 4 := by omega
  have hk0 : (0 : Int) ≤ k := by omega
  have hn0 : (0 : Int) ≤ (s.tr.length : Int) := by omega
  generalize hn : s.tr.length = n at *
  have H : Hid (RT w bT bC bR s) := h
  have HN : Hid (s.tr.length = n) := hn
  by_cases hlt : n < 24
  · have hn' : (n : Int) < 24 := by omega
    have hn1' : (n : Int) + 1 < 24 := by omega
    have d0 := (hb n hlt).c
    have e0 := (hb n hlt).f
    have d1 := (hb (n + 1) (by omega)).c
    have e1 := (hb (n + 1) (by omega)).f
    clear h hb hn ht
    go_enter Try.func74, Try.ntmps74
    go_wp2
    go_quiet (fail)
    go_wp2
    go_region
    all_goals go_wp2
    go_region
    all_goals go_wp2
    all_goals go_end0
    refine ⟨rfl, (RT.noted (H.out.drewN _) c k n hk HN.out hlt).drew, ?_⟩
    exact (((((Fr.refl _ _).drewN _).setCell (fun _ => by simp [S3]) _).setCell (fun _ => by simp [S3]) _).setCell (fun _ => by simp [S3]) _).drew
  · have hn' : ¬ (n : Int) < 24 := by omega
    clear h hb hn ht
    go_enter Try.func74, Try.ntmps74
    go_wp2
    go_quiet (fail)
    go_wp2
    go_end0
    refine ⟨rfl, ?_, (Fr.refl _ _).drewN _⟩
    have : L.noteL s.tr c k = s.tr := by simp [L.noteL, HN.out, hlt]
    rw [this]
    exact H.out.drewN _
end Go.Proofs.Qxb6500452a
