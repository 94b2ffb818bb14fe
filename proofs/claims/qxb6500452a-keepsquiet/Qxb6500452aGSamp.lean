/- The samples, played. -/
import Derived.Test.Qxb6500452aGNew
namespace Go.Proofs.Qxb6500452a
open Go Go.RowKit
set_option maxRecDepth 100000
set_option maxHeartbeats 1600000
set_option linter.unusedSimpArgs false
set_option linter.unusedVariables false

def smS : Nat → Led
  | 0 => led0 L.init
  | i + 1 => (srv (smS i) (smR i)).2.2
theorem sm0 : (srv (smS 0) (smR 0)).1 = smA 0 ∧ (srv (smS 0) (smR 0)).2.1 = smE 0 := ⟨by kernel_rfl, by kernel_rfl⟩
theorem sm1 : (srv (smS 1) (smR 1)).1 = smA 1 ∧ (srv (smS 1) (smR 1)).2.1 = smE 1 := ⟨by kernel_rfl, by kernel_rfl⟩
theorem sm2 : (srv (smS 2) (smR 2)).1 = smA 2 ∧ (srv (smS 2) (smR 2)).2.1 = smE 2 := ⟨by kernel_rfl, by kernel_rfl⟩
theorem sm3 : (srv (smS 3) (smR 3)).1 = smA 3 ∧ (srv (smS 3) (smR 3)).2.1 = smE 3 := ⟨by kernel_rfl, by kernel_rfl⟩
theorem sm4 : (srv (smS 4) (smR 4)).1 = smA 4 ∧ (srv (smS 4) (smR 4)).2.1 = smE 4 := ⟨by kernel_rfl, by kernel_rfl⟩
theorem sm5 : (srv (smS 5) (smR 5)).1 = smA 5 ∧ (srv (smS 5) (smR 5)).2.1 = smE 5 := ⟨by kernel_rfl, by kernel_rfl⟩
theorem sm6 : (srv (smS 6) (smR 6)).1 = smA 6 ∧ (srv (smS 6) (smR 6)).2.1 = smE 6 := ⟨by kernel_rfl, by kernel_rfl⟩
theorem sm7 : (srv (smS 7) (smR 7)).1 = smA 7 ∧ (srv (smS 7) (smR 7)).2.1 = smE 7 := ⟨by kernel_rfl, by kernel_rfl⟩
theorem sm8 : (srv (smS 8) (smR 8)).1 = smA 8 ∧ (srv (smS 8) (smR 8)).2.1 = smE 8 := ⟨by kernel_rfl, by kernel_rfl⟩
theorem sm9 : (srv (smS 9) (smR 9)).1 = smA 9 ∧ (srv (smS 9) (smR 9)).2.1 = smE 9 := ⟨by kernel_rfl, by kernel_rfl⟩
theorem sm10 : (srv (smS 10) (smR 10)).1 = smA 10 ∧ (srv (smS 10) (smR 10)).2.1 = smE 10 := ⟨by kernel_rfl, by kernel_rfl⟩
theorem sm11 : (srv (smS 11) (smR 11)).1 = smA 11 ∧ (srv (smS 11) (smR 11)).2.1 = smE 11 := ⟨by kernel_rfl, by kernel_rfl⟩
theorem sm12 : (srv (smS 12) (smR 12)).1 = smA 12 ∧ (srv (smS 12) (smR 12)).2.1 = smE 12 := ⟨by kernel_rfl, by kernel_rfl⟩
theorem sm13 : (srv (smS 13) (smR 13)).1 = smA 13 ∧ (srv (smS 13) (smR 13)).2.1 = smE 13 := ⟨by kernel_rfl, by kernel_rfl⟩
theorem sm14 : (srv (smS 14) (smR 14)).1 = smA 14 ∧ (srv (smS 14) (smR 14)).2.1 = smE 14 := ⟨by kernel_rfl, by kernel_rfl⟩
theorem sm15 : (srv (smS 15) (smR 15)).1 = smA 15 ∧ (srv (smS 15) (smR 15)).2.1 = smE 15 := ⟨by kernel_rfl, by kernel_rfl⟩
theorem sm16 : (srv (smS 16) (smR 16)).1 = smA 16 ∧ (srv (smS 16) (smR 16)).2.1 = smE 16 := ⟨by kernel_rfl, by kernel_rfl⟩
theorem sm17 : (srv (smS 17) (smR 17)).1 = smA 17 ∧ (srv (smS 17) (smR 17)).2.1 = smE 17 := ⟨by kernel_rfl, by kernel_rfl⟩
theorem sm_ok {i : Nat} (hi : i < 18) : (srv (smS i) (smR i)).1 = smA i ∧ (srv (smS i) (smR i)).2.1 = smE i := by
  have key : i = 0 ∨ i = 1 ∨ i = 2 ∨ i = 3 ∨ i = 4 ∨ i = 5 ∨ i = 6 ∨ i = 7 ∨ i = 8 ∨ i = 9 ∨ i = 10 ∨ i = 11 ∨ i = 12 ∨ i = 13 ∨ i = 14 ∨ i = 15 ∨ i = 16 ∨ i = 17 := by omega
  rcases key with rfl | rfl | rfl | rfl | rfl | rfl | rfl | rfl | rfl | rfl | rfl | rfl | rfl | rfl | rfl | rfl | rfl | rfl
  · exact sm0
  · exact sm1
  · exact sm2
  · exact sm3
  · exact sm4
  · exact sm5
  · exact sm6
  · exact sm7
  · exact sm8
  · exact sm9
  · exact sm10
  · exact sm11
  · exact sm12
  · exact sm13
  · exact sm14
  · exact sm15
  · exact sm16
  · exact sm17

theorem samples_any (w : World) : Calls Try.prog 9 #[] w fun e w' => e = .returned (.bool true) ∧ Fr (fun _ => False) w w' := by
  go_enter Try.func9, Try.ntmps9
  go_wp2_with fail
  refine (gground_any w).mono ?_
  rintro e w1 ⟨b, rfl, lr, hb, f1⟩
  have LR1 := hid (lr.fr ((Fr.refl (fun _ => False) w1).alloc (.cells #[.pointer (some ⟨b.D, 0, none⟩), .pointer (some ⟨b.T, 0, none⟩)] 30)) (fun _ _ h => h))
  have F1 := hid (f1.alloc (.cells #[.pointer (some ⟨b.D, 0, none⟩), .pointer (some ⟨b.T, 0, none⟩)] 30))
  have HB := hid hb
  clear lr f1 hb
  go_wp2_with fail
  generalize w1.alloc (.cells #[.pointer (some ⟨b.D, 0, none⟩), .pointer (some ⟨b.T, 0, none⟩)] 30) = w2 at *
  refine (gnew_any LR1.out).mono ?_
  rintro e w3 ⟨G, hG, rfl, gt, f3⟩
  have GT3 := hid gt
  have F3 := hid (F1.out.trans f3)
  have HSG : Hid (∀ i, SG b G i → w.heap.size ≤ i) := by
    rintro i (c | c)
    · exact HB.out i c
    · have := F1.out.size; omega
  clear gt f3 hG
  go_wp2_with fail
  go_loopw [3] (fun i wr => ∃ (k : Nat) (c : Cts), k ≤ 18 ∧ i = .int .i64 (k : Int) ∧ GT wr G b (smS k) c ∧ Fr (fun _ => False) w wr) (fun i _ => 18 - (intOf i).toNat)
  case atStart => exact ⟨0, _, by omega, rfl, GT3.out, F3.out⟩
  case round =>
    clear GT3 F3
    obtain ⟨k, c, hk, rfl, gt, fr⟩ := hrel
    have GTk := hid gt
    have FR := hid fr
    have hk0 : (0 : Int) ≤ (k : Int) := by omega
    clear gt fr
    by_cases hlt : k < 18
    · have hltI : (k : Int) < 18 := by omega
      go_wp2_with fail
      refine (sample_any hlt wr).mono ?_
      rintro e w4 ⟨rfl, hw4⟩
      obtain rfl := hw4.symm
      go_wp2_with fail
      have hsv := serve_any GTk.out (smR k)
      rw [(sm_ok hlt).1, (sm_ok hlt).2] at hsv
      refine hsv.mono ?_
      clear hsv
      rintro e w5 ⟨rfl, gt5, f5⟩
      have GT5 : Hid (GT w5 G b (smS (k + 1)) (cntC c (smE k))) := gt5
      have F5 := hid (FR.out.then f5 (fun i hi d => by have := HSG.out i d; omega))
      clear gt5 f5
      go_wp2_with fail
      exact ⟨⟨k + 1, _, by omega, by go_num, GT5.out, F5.out⟩, by simp [intOf]; omega⟩
    · have hltI : ¬ (k : Int) < 18 := by omega
      go_wp2_with fail
      go_ret
      exact ⟨rfl, FR.out⟩

end Go.Proofs.Qxb6500452a
