import Derived.Test.Qxb6500452aLShow
namespace Go.Proofs.Qxb6500452a
open Go Go.RowKit
set_option maxRecDepth 100000
set_option maxHeartbeats 800000
set_option linter.unusedSimpArgs false
set_option linter.unusedVariables false

def cntTo (s : L.St) : Nat → Nat
  | 0 => 0
  | k + 1 => cntTo s k + L.b1 (s.op k)

theorem cntTo_le (s : L.St) : ∀ k, cntTo s k ≤ k
  | 0 => Nat.le_refl _
  | k + 1 => by
    have := cntTo_le s k
    have : L.b1 (s.op k) ≤ 1 := by cases s.op k <;> simp [L.b1]
    simp only [cntTo]; omega

theorem cntTo_four (s : L.St) : cntTo s 4 = s.cnt := by simp [cntTo, L.St.cnt]

theorem tcheck_any {w : World} {bT bC bR : Nat} {s : L.St} (h : RT w bT bC bR s) :
    Calls Try.prog 71 #[.pointer (some ⟨bT, 0, none⟩)] w fun e w' => e = .returned (.bool true) ∧ Fr (fun _ => False) w w' := by
  have t0 := h.t0.c
  have t2 := h.t2.c
  have t3 := h.t3.c
  have hlen := h.ok.len
  have hev := h.ok.even
  have H := hid h
  have hn0 : decide ((s.tr.length : Int) < 0) = false := by simp
  have hn1 : decide ((24 : Int) < (s.tr.length : Int)) = false := by simp; omega
  have hn2 : ((s.tr.length : Int) % 2 != 0) = false := by simp; omega
  have hn3 : (0 : Int) ≤ (s.tr.length : Int) := by omega
  have hn4 : (s.tr.length : Int) ≤ 24 := by omega
  clear h
  generalize s.tr.length = n at *
  go_enter Try.func71, Try.ntmps71
  go_wp2_with fail
  go_quiet (fail)
  go_wp2_with fail
  rename_i nq
  go_loopw [3, 4] (fun t i wr => ∃ k : Nat, k ≤ 4 ∧ i = .int .i64 k ∧ t = .int .i64 (cntTo s k) ∧ Fr (fun _ => False) w wr) (fun _ i _ => 4 - (intOf i).toNat)
  case atStart => exact ⟨0, by omega, rfl, rfl, (Fr.refl _ _).drewN _⟩
  case round =>
    obtain ⟨k, hk, rfl, rfl, hf⟩ := hrel
    have hR := H.out.fr hf (fun f => f) (fun f => f) (fun f => f)
    clear t0 t2 t3 hn0 hn1 hn2 hn3 hn4
    have t0 := hR.t0.c
    have hk0 : (0 : Int) ≤ (k : Int) := by omega
    have HF := hid hf
    have hc := cntTo_le s k
    have hc' : (cntTo s k : Int) ≤ 4 := by omega
    clear hf
    by_cases hlt : k < 4
    · have hk4 : (k : Int) < 4 := by omega
      have cg := (hR.cg k hlt).c
      have co := (hR.co k hlt).c
      have hg := hR.ok.gen k hlt
      have hg0 : (0 : Int) ≤ (s.gen k : Int) := by omega
      have hg1 : (s.gen k : Int) < 4 := by omega
      have hd0 : decide ((s.gen k : Int) < 0) = false := by simp
      have hd1 : decide ((4 : Int) ≤ (s.gen k : Int)) = false := by simp; omega
      clear hR
      by_cases ho : s.op k = true
      · have HE : Hid (cntTo s (k + 1) = cntTo s k + 1) := by simp [Hid, cntTo, ho, L.b1]
        have hh := L.hdl_open ho
        rw [hh] at co
        clear hh ho
        have hne : (((k : Int) + 4 * (s.gen k : Int)) != -1) = true := by simp; omega
        go_wp2_with fail
        exact ⟨⟨k + 1, by omega, by go_num, by rw [HE.out]; go_num, HF.out.alloc _⟩, by simp [intOf]; omega⟩
      · have HE : Hid (cntTo s (k + 1) = cntTo s k) := by simp [Hid, cntTo, ho, L.b1]
        have hh := L.hdl_free (s := s) (k := k) (by simpa using ho)
        rw [hh] at co
        clear hh ho
        go_wp2_with fail
        exact ⟨⟨k + 1, by omega, by go_num, by rw [HE.out], HF.out.alloc _⟩, by simp [intOf]; omega⟩
    · have hk4 : ¬ (k : Int) < 4 := by omega
      have hk4' : k = 4 := by omega
      subst hk4'
      have t1 := hR.t1.c
      rw [cntTo_four]
      clear hR hc hc'
      go_wp2_with fail
      go_ret
      refine ⟨?_, HF.out⟩
      simp
end Go.Proofs.Qxb6500452a
