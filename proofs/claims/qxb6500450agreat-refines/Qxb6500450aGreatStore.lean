/- The real store: its representation, leave, New. -/
import Derived.Test.Qxb6500450aGreatPlain
namespace Go.Proofs.Qxb6500450aGreat
open Go Go.RowKit
set_option maxRecDepth 100000
set_option maxHeartbeats 800000
set_option linter.unusedSimpArgs false
set_option linter.unusedVariables false

theorem kInt : KL Tryz.prog 3 ik := ik_law (by kernel_rfl)
theorem uDocs : Tryz.prog.underlying 73 = some (.map 3 125) := by kernel_rfl
theorem uInts : Tryz.prog.underlying 74 = some (.map 3 3) := by kernel_rfl
theorem zPtr (w : World) : (zeroValue 125).run Tryz.prog w = .ok (.pointer none) w := by kernel_rfl
theorem zInt (w : World) : (zeroValue 3).run Tryz.prog w = .ok (.int .i64 0) w := by kernel_rfl

theorem MapF.ne_at {K : Type} [DecidableEq K] {kv : K → Value} {w : World} {b b' n o : Nat} {f : K → Option Value} {v : Value} (h : MapF kv w b f n) (h' : At w b' o v) : b ≠ b' := by
  rintro rfl
  obtain ⟨l, c, h1, _⟩ := h
  have := h'.c
  unfold MapIs at h1
  simp [World.cell?, h1] at this

theorem leave_any {w : World} {bS bg q : Nat} {c : Int → Nat} {g : Int} (hS : At w bS 2 (.map (some bg))) (h : MapF ik w bg (cm c) q) (h1 : 1 ≤ c g) (h2 : c g < 4611686018427387904) :
    Calls Tryz.prog 102 #[.pointer (some ⟨bS, 0, none⟩), .int .i64 g] w fun e w' => e = .returned (.tuple #[]) ∧ (∃ q', MapF ik w' bg (cm (decC c g)) q') ∧ Fr (fun i => i = bg) w w' ∧ w'.heap.size = w.heap.size := by
  have hne := h.ne_at hS
  have s2 := hS.c
  have HM := hid h
  have HS := hid hS
  clear h
  have hx : (1 : Int) ≤ (c g : Int) := by omega
  have hy : (c g : Int) < 4611686018427387904 := by omega
  go_enter Tryz.func102, Tryz.ntmps102
  have HG := hid (cm_get c g)
  clear h1
  by_cases h3 : c g = 1
  · have hz : ((c g : Int) - 1 == 0) = true := by simp; omega
    have H3 := hid h3
    clear h3
    go_wp2_with (first
      | (at_lookup; refine wp_look1 rfl rfl kInt uInts zInt HM.out rfl (k := g) rfl HG.out ?_)
      | (at_mapUpdate; refine wp_upd rfl rfl kInt uInts HM.out rfl (k := g) rfl (u := .int .i64 ((c g : Int) - 1)) rfl ?_; intro w1 hm1 hf1 hs1; have s2' := (HS.out.fr hf1 (fun e => hne e.symm)).c)
      | (at_lookup; refine wp_look1 rfl rfl kInt uInts zInt hm1 rfl (k := g) rfl (v := .int .i64 ((c g : Int) - 1)) (by simp [updF]) ?_)
      | (at_delete; refine wp_del rfl rfl kInt uInts hm1 rfl (k := g) rfl ?_; intro w2 hm2 hf2 hs2)
      | go_in)
    go_end0
    rw [cm_dec1 c g _ H3.out] at hm2
    exact ⟨rfl, ⟨_, hm2⟩, hf1.trans hf2, hs2.trans hs1⟩
  · have hz : ((c g : Int) - 1 == 0) = false := by simp; omega
    have H3 := hid h3
    have hx2 : (2 : Int) ≤ (c g : Int) := by omega
    clear h3
    go_wp2_with (first
      | (at_lookup; refine wp_look1 rfl rfl kInt uInts zInt HM.out rfl (k := g) rfl HG.out ?_)
      | (at_mapUpdate; refine wp_upd rfl rfl kInt uInts HM.out rfl (k := g) rfl (u := .int .i64 ((c g : Int) - 1)) rfl ?_; intro w1 hm1 hf1 hs1; have s2' := (HS.out.fr hf1 (fun e => hne e.symm)).c)
      | (at_lookup; refine wp_look1 rfl rfl kInt uInts zInt hm1 rfl (k := g) rfl (v := .int .i64 ((c g : Int) - 1)) (by simp [updF]) ?_)
      | go_in)
    go_end0
    rw [cm_dec c g (by omega)] at hm1
    exact ⟨rfl, ⟨_, hm1⟩, hf1, hs1⟩

end Go.Proofs.Qxb6500450aGreat
