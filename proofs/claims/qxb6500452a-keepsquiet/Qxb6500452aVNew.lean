/- The real ledger made. -/
import Derived.Test.Qxb6500452aVAsk
namespace Go.Proofs.Qxb6500452a
open Go Go.RowKit
set_option maxRecDepth 100000
set_option maxHeartbeats 1600000
set_option linter.unusedSimpArgs false
set_option linter.unusedVariables false

def z12 : Array Value := #[.int .i64 0, .int .i64 0, .int .i64 0, .int .i64 0, .int .i64 0, .int .i64 0, .int .i64 0, .int .i64 0, .int .i64 0, .int .i64 0, .int .i64 0, .int .i64 0]
theorem mkBal (w : World) : (Instr.makeSlice 89 (.int .i64 4) (.int .i64 4)).run Try.prog w = .ok (.slice (some ⟨w.heap.size, 0, none⟩) 4 4) (w.alloc (.cells #[.int .i64 0, .int .i64 0, .int .i64 0, .int .i64 0] 3)) := by kernel_rfl
theorem mkLog (w : World) : (Instr.makeSlice 90 (.int .i64 0) (.int .i64 6)).run Try.prog w = .ok (.slice (some ⟨w.heap.size, 0, none⟩) 0 6) (w.alloc (.cells z12 135)) := by kernel_rfl

/-- Balances as far as k. -/
def balTo (k : Nat) : Nat → Int := fun j => if j < k then 100 else 0
theorem balTo_step (k : Nat) : updI (balTo k) k 100 = balTo (k + 1) := by
  funext j
  unfold updI balTo
  by_cases h : j = k
  · subst h; simp
  · by_cases h2 : j < k
    · rw [if_neg h, if_pos h2, if_pos (by omega)]
    · rw [if_neg h, if_neg h2, if_neg (by omega)]
def led0 (s : L.St) : Led := ⟨s, fun _ => 100, 0⟩

theorem LV.bal {w : World} {b : LB} {bal bal' : Nat → Int} {jr : List (Nat × Int)} {un : Nat} (h : LV w b bal jr un) (hb : ∀ k, k < 4 → bal k = bal' k) : LV w b bal' jr un :=
  { h with bl := fun k hk => by rw [← hb k hk]; exact h.bl k hk }

theorem lnew_any {w : World} {bT bC bR : Nat} {s : L.St} (h : RT w bT bC bR s) :
    Calls Try.prog 28 #[.pointer (some ⟨bT, 0, none⟩)] w fun e w' => ∃ b : LB, e = .returned (.pointer (some ⟨b.D, 0, none⟩)) ∧ b.T = bT ∧ b.C = bC ∧ b.R = bR ∧ LR w' b (led0 s) ∧ (∀ i, S3L b i → w.heap.size ≤ i) ∧ Fr (fun _ => False) w w' := by
  have m1 := mkBal
  have m2 := mkLog
  have H := hid h
  clear h
  go_enter Try.func28, Try.ntmps28
  go_wp2_with fail
  go_region
  · have LV0 : Hid (LV ((((w.alloc (.cells #[.int .i64 0, .int .i64 0, .int .i64 0, .int .i64 0] 3)).alloc (.cells z12 135)).alloc (.cells #[.pointer (some ⟨bT, 0, none⟩), .slice (some ⟨w.heap.size, 0, none⟩) 4 4, .slice (some ⟨w.heap.size + 1, 0, none⟩) 0 6, .int .i64 0] 92)).drew) ⟨w.heap.size + 1 + 1, w.heap.size, w.heap.size + 1, bT, bC, bR⟩ (balTo 0) [] 0) := by
      have hlt := H.out.lt
      have nS : ∀ i, w.heap.size ≤ i → ¬ S3 bT bC bR i := fun i hi c => by rcases c with rfl | rfl | rfl <;> omega
      have aD : ∀ o v, (#[.pointer (some ⟨bT, 0, none⟩), .slice (some ⟨w.heap.size, 0, none⟩) 4 4, .slice (some ⟨w.heap.size + 1, 0, none⟩) 0 6, .int .i64 0] : Array Value)[o]? = some v → At ((((w.alloc (.cells #[.int .i64 0, .int .i64 0, .int .i64 0, .int .i64 0] 3)).alloc (.cells z12 135)).alloc (.cells #[.pointer (some ⟨bT, 0, none⟩), .slice (some ⟨w.heap.size, 0, none⟩) 4 4, .slice (some ⟨w.heap.size + 1, 0, none⟩) 0 6, .int .i64 0] 92)).drew) (w.heap.size + 1 + 1) o v := fun o v hv => by
        have := (At.new ((w.alloc (.cells #[.int .i64 0, .int .i64 0, .int .i64 0, .int .i64 0] 3)).alloc (.cells z12 135)) #[.pointer (some ⟨bT, 0, none⟩), .slice (some ⟨w.heap.size, 0, none⟩) 4 4, .slice (some ⟨w.heap.size + 1, 0, none⟩) 0 6, .int .i64 0] 92 hv).drew
        simp only [World.size_alloc] at this
        exact this
      have aB : ∀ o v, (#[.int .i64 0, .int .i64 0, .int .i64 0, .int .i64 0] : Array Value)[o]? = some v → At ((((w.alloc (.cells #[.int .i64 0, .int .i64 0, .int .i64 0, .int .i64 0] 3)).alloc (.cells z12 135)).alloc (.cells #[.pointer (some ⟨bT, 0, none⟩), .slice (some ⟨w.heap.size, 0, none⟩) 4 4, .slice (some ⟨w.heap.size + 1, 0, none⟩) 0 6, .int .i64 0] 92)).drew) (w.heap.size) o v := fun o v hv => (((At.new w _ _ hv).alloc _).alloc _).drew
      have aG : ∀ o v, z12[o]? = some v → At ((((w.alloc (.cells #[.int .i64 0, .int .i64 0, .int .i64 0, .int .i64 0] 3)).alloc (.cells z12 135)).alloc (.cells #[.pointer (some ⟨bT, 0, none⟩), .slice (some ⟨w.heap.size, 0, none⟩) 4 4, .slice (some ⟨w.heap.size + 1, 0, none⟩) 0 6, .int .i64 0] 92)).drew) (w.heap.size + 1) o v := fun o v hv => by
        have := ((At.new (w.alloc (.cells #[.int .i64 0, .int .i64 0, .int .i64 0, .int .i64 0] 3)) z12 135 hv).alloc (.cells #[.pointer (some ⟨bT, 0, none⟩), .slice (some ⟨w.heap.size, 0, none⟩) 4 4, .slice (some ⟨w.heap.size + 1, 0, none⟩) 0 6, .int .i64 0] 92)).drew
        simp only [World.size_alloc] at this
        exact this
      refine ⟨aD 0 _ rfl, aD 1 _ rfl, aD 2 _ rfl, aD 3 _ rfl, fun k hk => ?_, fun i hi => by simp at hi, fun i hi => ?_, ⟨by simp only; omega, by simp only; omega, by simp only; omega, nS _ (by simp only; omega), nS _ (by simp only; omega), nS _ (by simp only; omega)⟩⟩
      · have : k = 0 ∨ k = 1 ∨ k = 2 ∨ k = 3 := by omega
        rcases this with rfl | rfl | rfl | rfl <;> exact aB _ _ rfl
      · have : i = 0 ∨ i = 1 ∨ i = 2 ∨ i = 3 ∨ i = 4 ∨ i = 5 ∨ i = 6 ∨ i = 7 ∨ i = 8 ∨ i = 9 ∨ i = 10 ∨ i = 11 := by omega
        rcases this with rfl | rfl | rfl | rfl | rfl | rfl | rfl | rfl | rfl | rfl | rfl | rfl <;> exact (aG _ _ rfl).has
    have F0 : Hid (Fr (fun _ => False) w ((((w.alloc (.cells #[.int .i64 0, .int .i64 0, .int .i64 0, .int .i64 0] 3)).alloc (.cells z12 135)).alloc (.cells #[.pointer (some ⟨bT, 0, none⟩), .slice (some ⟨w.heap.size, 0, none⟩) 4 4, .slice (some ⟨w.heap.size + 1, 0, none⟩) 0 6, .int .i64 0] 92)).drew)) := ((((Fr.refl _ _).alloc _).alloc _).alloc _).drew
    have HB : Hid (∀ i, S3L ⟨w.heap.size + 1 + 1, w.heap.size, w.heap.size + 1, bT, bC, bR⟩ i → w.heap.size ≤ i) := fun i hi => by
      rcases hi with rfl | rfl | rfl <;> simp only <;> omega
    have d1 := LV0.out.d1.c
    simp only at d1
    clear m1 m2
    go_wp2_with fail
    generalize (((w.alloc (.cells #[.int .i64 0, .int .i64 0, .int .i64 0, .int .i64 0] 3)).alloc (.cells z12 135)).alloc (.cells #[.pointer (some ⟨bT, 0, none⟩), .slice (some ⟨w.heap.size, 0, none⟩) 4 4, .slice (some ⟨w.heap.size + 1, 0, none⟩) 0 6, .int .i64 0] 92)).drew = w1 at *
    obtain ⟨b, hb⟩ : ∃ b : LB, b = ⟨w.heap.size + 1 + 1, w.heap.size, w.heap.size + 1, bT, bC, bR⟩ := ⟨_, rfl⟩
    have e1 : w.heap.size + 1 + 1 = b.D := by rw [hb]
    have e2 : w.heap.size = b.B := by rw [hb]
    have HBT : Hid (b.T = bT ∧ b.C = bC ∧ b.R = bR) := by rw [hb]; exact ⟨rfl, rfl, rfl⟩
    rw [← hb] at LV0 HB
    try rw [e1]
    rw [e1] at d1
    rw [e2] at d1
    try rw [e2]
    clear hb e1 e2
    go_loopw [4, 15] (fun _ i wr => ∃ k : Nat, k ≤ 4 ∧ i = .int .i64 k ∧ LV wr b (balTo k) [] 0 ∧ Fr (S3L b) w1 wr) (fun _ i _ => 4 - (intOf i).toNat)
    case atStart => exact ⟨0, by omega, rfl, LV0.out, Fr.refl _ _⟩
    case round =>
      obtain ⟨k, hk, rfl, lv, fr⟩ := hrel
      have LVH := hid lv
      have FR := hid fr
      have hk0 : (0 : Int) ≤ (k : Int) := by omega
      have d1 := lv.d1.c
      by_cases hlt : k < 4
      · have hk4 : (k : Int) < 4 := by omega
        have c := (lv.bl k hlt).c
        have x := (lv.bl k hlt).f
        clear lv fr
        go_wp2_with fail
        exact ⟨⟨k + 1, by omega, by go_num, by rw [← balTo_step]; exact LVH.out.setB _, FR.out.setCell (p := ⟨b.B, k, none⟩) (fun _ => .inr (.inl rfl)) _⟩, by simp [intOf]; omega⟩
      · have hk4 : ¬ (k : Int) < 4 := by omega
        obtain rfl : k = 4 := by omega
        clear lv fr
        go_wp2_with fail
        go_ret
        obtain ⟨t1, t2, t3⟩ := HBT.out
        have hap := LVH.out.ok.apart
        have hwf : Fr (fun _ => False) w wr := F0.out.then FR.out (fun i hi c => by have := HB.out i c; omega)
        refine ⟨b, rfl, t1, t2, t3, ⟨?_, LVH.out.bal (fun k hk => by simp [balTo, led0, hk]), fun k hk => by simp [led0], by simp [led0], by simp [led0, sum4]⟩, HB.out, hwf⟩
        rw [t1, t2, t3]
        exact H.out.fr hwf (fun h => h) (fun h => h) (fun h => h)
  · have LV0 : Hid (LV ((((w.alloc (.cells z12 135)).alloc (.cells #[.int .i64 0, .int .i64 0, .int .i64 0, .int .i64 0] 3)).alloc (.cells #[.pointer (some ⟨bT, 0, none⟩), .slice (some ⟨w.heap.size + 1, 0, none⟩) 4 4, .slice (some ⟨w.heap.size, 0, none⟩) 0 6, .int .i64 0] 92)).drew) ⟨w.heap.size + 1 + 1, w.heap.size + 1, w.heap.size, bT, bC, bR⟩ (balTo 0) [] 0) := by
      have hlt := H.out.lt
      have nS : ∀ i, w.heap.size ≤ i → ¬ S3 bT bC bR i := fun i hi c => by rcases c with rfl | rfl | rfl <;> omega
      have aD : ∀ o v, (#[.pointer (some ⟨bT, 0, none⟩), .slice (some ⟨w.heap.size + 1, 0, none⟩) 4 4, .slice (some ⟨w.heap.size, 0, none⟩) 0 6, .int .i64 0] : Array Value)[o]? = some v → At ((((w.alloc (.cells z12 135)).alloc (.cells #[.int .i64 0, .int .i64 0, .int .i64 0, .int .i64 0] 3)).alloc (.cells #[.pointer (some ⟨bT, 0, none⟩), .slice (some ⟨w.heap.size + 1, 0, none⟩) 4 4, .slice (some ⟨w.heap.size, 0, none⟩) 0 6, .int .i64 0] 92)).drew) (w.heap.size + 1 + 1) o v := fun o v hv => by
        have := (At.new ((w.alloc (.cells z12 135)).alloc (.cells #[.int .i64 0, .int .i64 0, .int .i64 0, .int .i64 0] 3)) #[.pointer (some ⟨bT, 0, none⟩), .slice (some ⟨w.heap.size + 1, 0, none⟩) 4 4, .slice (some ⟨w.heap.size, 0, none⟩) 0 6, .int .i64 0] 92 hv).drew
        simp only [World.size_alloc] at this
        exact this
      have aG : ∀ o v, z12[o]? = some v → At ((((w.alloc (.cells z12 135)).alloc (.cells #[.int .i64 0, .int .i64 0, .int .i64 0, .int .i64 0] 3)).alloc (.cells #[.pointer (some ⟨bT, 0, none⟩), .slice (some ⟨w.heap.size + 1, 0, none⟩) 4 4, .slice (some ⟨w.heap.size, 0, none⟩) 0 6, .int .i64 0] 92)).drew) (w.heap.size) o v := fun o v hv => (((At.new w _ _ hv).alloc _).alloc _).drew
      have aB : ∀ o v, (#[.int .i64 0, .int .i64 0, .int .i64 0, .int .i64 0] : Array Value)[o]? = some v → At ((((w.alloc (.cells z12 135)).alloc (.cells #[.int .i64 0, .int .i64 0, .int .i64 0, .int .i64 0] 3)).alloc (.cells #[.pointer (some ⟨bT, 0, none⟩), .slice (some ⟨w.heap.size + 1, 0, none⟩) 4 4, .slice (some ⟨w.heap.size, 0, none⟩) 0 6, .int .i64 0] 92)).drew) (w.heap.size + 1) o v := fun o v hv => by
        have := ((At.new (w.alloc (.cells z12 135)) #[.int .i64 0, .int .i64 0, .int .i64 0, .int .i64 0] 3 hv).alloc (.cells #[.pointer (some ⟨bT, 0, none⟩), .slice (some ⟨w.heap.size + 1, 0, none⟩) 4 4, .slice (some ⟨w.heap.size, 0, none⟩) 0 6, .int .i64 0] 92)).drew
        simp only [World.size_alloc] at this
        exact this
      refine ⟨aD 0 _ rfl, aD 1 _ rfl, aD 2 _ rfl, aD 3 _ rfl, fun k hk => ?_, fun i hi => by simp at hi, fun i hi => ?_, ⟨by simp only; omega, by simp only; omega, by simp only; omega, nS _ (by simp only; omega), nS _ (by simp only; omega), nS _ (by simp only; omega)⟩⟩
      · have : k = 0 ∨ k = 1 ∨ k = 2 ∨ k = 3 := by omega
        rcases this with rfl | rfl | rfl | rfl <;> exact aB _ _ rfl
      · have : i = 0 ∨ i = 1 ∨ i = 2 ∨ i = 3 ∨ i = 4 ∨ i = 5 ∨ i = 6 ∨ i = 7 ∨ i = 8 ∨ i = 9 ∨ i = 10 ∨ i = 11 := by omega
        rcases this with rfl | rfl | rfl | rfl | rfl | rfl | rfl | rfl | rfl | rfl | rfl | rfl <;> exact (aG _ _ rfl).has
    have F0 : Hid (Fr (fun _ => False) w ((((w.alloc (.cells z12 135)).alloc (.cells #[.int .i64 0, .int .i64 0, .int .i64 0, .int .i64 0] 3)).alloc (.cells #[.pointer (some ⟨bT, 0, none⟩), .slice (some ⟨w.heap.size + 1, 0, none⟩) 4 4, .slice (some ⟨w.heap.size, 0, none⟩) 0 6, .int .i64 0] 92)).drew)) := ((((Fr.refl _ _).alloc _).alloc _).alloc _).drew
    have HB : Hid (∀ i, S3L ⟨w.heap.size + 1 + 1, w.heap.size + 1, w.heap.size, bT, bC, bR⟩ i → w.heap.size ≤ i) := fun i hi => by
      rcases hi with rfl | rfl | rfl <;> simp only <;> omega
    have d1 := LV0.out.d1.c
    simp only at d1
    clear m1 m2
    go_wp2_with fail
    generalize (((w.alloc (.cells z12 135)).alloc (.cells #[.int .i64 0, .int .i64 0, .int .i64 0, .int .i64 0] 3)).alloc (.cells #[.pointer (some ⟨bT, 0, none⟩), .slice (some ⟨w.heap.size + 1, 0, none⟩) 4 4, .slice (some ⟨w.heap.size, 0, none⟩) 0 6, .int .i64 0] 92)).drew = w1 at *
    obtain ⟨b, hb⟩ : ∃ b : LB, b = ⟨w.heap.size + 1 + 1, w.heap.size + 1, w.heap.size, bT, bC, bR⟩ := ⟨_, rfl⟩
    have e1 : w.heap.size + 1 + 1 = b.D := by rw [hb]
    have e2 : w.heap.size + 1 = b.B := by rw [hb]
    have HBT : Hid (b.T = bT ∧ b.C = bC ∧ b.R = bR) := by rw [hb]; exact ⟨rfl, rfl, rfl⟩
    rw [← hb] at LV0 HB
    try rw [e1]
    rw [e1] at d1
    rw [e2] at d1
    try rw [e2]
    clear hb e1 e2
    go_loopw [4, 15] (fun _ i wr => ∃ k : Nat, k ≤ 4 ∧ i = .int .i64 k ∧ LV wr b (balTo k) [] 0 ∧ Fr (S3L b) w1 wr) (fun _ i _ => 4 - (intOf i).toNat)
    case atStart => exact ⟨0, by omega, rfl, LV0.out, Fr.refl _ _⟩
    case round =>
      obtain ⟨k, hk, rfl, lv, fr⟩ := hrel
      have LVH := hid lv
      have FR := hid fr
      have hk0 : (0 : Int) ≤ (k : Int) := by omega
      have d1 := lv.d1.c
      by_cases hlt : k < 4
      · have hk4 : (k : Int) < 4 := by omega
        have c := (lv.bl k hlt).c
        have x := (lv.bl k hlt).f
        clear lv fr
        go_wp2_with fail
        exact ⟨⟨k + 1, by omega, by go_num, by rw [← balTo_step]; exact LVH.out.setB _, FR.out.setCell (p := ⟨b.B, k, none⟩) (fun _ => .inr (.inl rfl)) _⟩, by simp [intOf]; omega⟩
      · have hk4 : ¬ (k : Int) < 4 := by omega
        obtain rfl : k = 4 := by omega
        clear lv fr
        go_wp2_with fail
        go_ret
        obtain ⟨t1, t2, t3⟩ := HBT.out
        have hap := LVH.out.ok.apart
        have hwf : Fr (fun _ => False) w wr := F0.out.then FR.out (fun i hi c => by have := HB.out i c; omega)
        refine ⟨b, rfl, t1, t2, t3, ⟨?_, LVH.out.bal (fun k hk => by simp [balTo, led0, hk]), fun k hk => by simp [led0], by simp [led0], by simp [led0, sum4]⟩, HB.out, hwf⟩
        rw [t1, t2, t3]
        exact H.out.fr hwf (fun h => h) (fun h => h) (fun h => h)

end Go.Proofs.Qxb6500452a
