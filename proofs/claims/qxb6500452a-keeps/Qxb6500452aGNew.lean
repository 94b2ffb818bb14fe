/- The gate over a fresh ground; the samples. -/
import Derived.Test.Qxb6500452aGServe3
import Derived.Test.Qxb6500452aVNew
namespace Go.Proofs.Qxb6500452a
open Go Go.RowKit
set_option maxRecDepth 100000
set_option maxHeartbeats 1600000
set_option linter.unusedSimpArgs false
set_option linter.unusedVariables false

theorem gground_any (w : World) : Calls Try.prog 16 #[] w fun e w' => ∃ b : LB, e = .returned (.agg #[.pointer (some ⟨b.D, 0, none⟩), .pointer (some ⟨b.T, 0, none⟩)]) ∧ LR w' b (led0 L.init) ∧ (∀ i, SL b i → w.heap.size ≤ i) ∧ Fr (fun _ => False) w w' := by
  go_enter Try.func16, Try.ntmps16
  go_upto_region 1 with fail
  have F0 := hid ((Fr.refl (fun _ => False) w).alloc (.cells #[.pointer none, .pointer none] 30))
  have A0 : Hid (∀ q v, (#[.pointer none, .pointer none] : Array Value)[q]? = some v → At (w.alloc (.cells #[.pointer none, .pointer none] 30)) w.heap.size q v) := fun q v hv => At.new w _ _ hv
  generalize w.alloc (.cells #[.pointer none, .pointer none] 30) = w0 at *
  obtain ⟨p0, hp0⟩ : ∃ p0, p0 = w.heap.size := ⟨_, rfl⟩
  rw [← hp0] at A0 ⊢
  have HP := hid hp0
  clear hp0
  go_wp2_with fail
  refine (new_any w0).mono ?_
  rintro e w1 ⟨rfl, hr, hf⟩
  have R1 := hid hr
  have F1 := hid hf
  have A1 := hid (fun q v hv => (A0.out q v hv).fr hf (fun h => h))
  have HZ := hid F0.out.size
  clear hr hf
  go_wp2_with fail
  refine (lnew_any R1.out).mono ?_
  rintro e w2 ⟨b, rfl, hT, hC, hR, lr, hl, f2⟩
  have A2 := hid (fun q v hv => (A1.out q v hv).fr f2 (fun h => h))
  have F2 := hid ((F0.out.trans F1.out).trans f2)
  have LR2 := hid lr
  have HSL : Hid (∀ i, SL b i → p0 < i) := by
    rintro i (c | c)
    · have := hl i c; have := F1.out.size; have := (A0.out 0 _ rfl).lt; omega
    · rw [hT, hC, hR] at c
      have := (A0.out 0 _ rfl).lt
      rcases c with rfl | rfl | rfl <;> omega
  have HT := hid hT
  clear hT hC hR lr hl f2 A1
  have c0 := (A2.out 0 _ rfl).c
  have c1 := (A2.out 1 _ rfl).c
  have x0 := (A2.out 0 _ rfl).f
  have x1 := (A2.out 1 _ rfl).f
  rw [← HT.out]
  go_wp2_with fail
  have z0 := ((A2.out 0 _ rfl).same (.pointer (some ⟨b.D, 0, none⟩))).other (b' := p0) (o' := 1) (by omega) (.pointer (some ⟨b.T, 0, none⟩)) |>.c
  have z1 := ((A2.out 1 _ rfl).other (b' := p0) (o' := 0) (by omega) (.pointer (some ⟨b.D, 0, none⟩))).same (.pointer (some ⟨b.T, 0, none⟩)) |>.c
  have ff : Fr (fun i => i = p0) w2 ((w2.setCell ⟨p0, 0, none⟩ (.pointer (some ⟨b.D, 0, none⟩))).setCell ⟨p0, 1, none⟩ (.pointer (some ⟨b.T, 0, none⟩))) := ((Fr.refl (fun i => i = p0) w2).setCell (p := ⟨p0, 0, none⟩) (fun _ => rfl) _).setCell (p := ⟨p0, 1, none⟩) (fun _ => rfl) _
  generalize (w2.setCell ⟨p0, 0, none⟩ (.pointer (some ⟨b.D, 0, none⟩))).setCell ⟨p0, 1, none⟩ (.pointer (some ⟨b.T, 0, none⟩)) = w3 at *
  refine bodyPost_ret (v := .agg #[.pointer (some ⟨b.D, 0, none⟩), .pointer (some ⟨b.T, 0, none⟩)]) (by simp [results, Try.results16, go_sem, z0, z1]) rfl ⟨b, rfl, LR2.out.fr ff (fun i c e => by have := HSL.out i c; omega), fun i c => by have := HSL.out i c; have := HP.out; omega, F2.out.then ff (fun i hi e => by have := HP.out; omega)⟩

theorem gnew_any {w : World} {b : LB} {s : Led} (h : LR w b s) : Calls Try.prog 17 #[.pointer (some ⟨b.D, 0, none⟩)] w fun e w' => ∃ G, w.heap.size ≤ G ∧ e = .returned (.pointer (some ⟨G, 0, none⟩)) ∧ GT w' G b s ⟨0, 0, 0, 0⟩ ∧ Fr (fun _ => False) w w' := by
  go_enter Try.func17, Try.ntmps17
  go_wp2_with fail
  go_ret
  have fa := (Fr.refl (fun _ => False) w).alloc (.cells #[.pointer (some ⟨b.D, 0, none⟩), .int .i64 0, .int .i64 0, .int .i64 0, .int .i64 0] 50)
  have an : ∀ q v, (#[.pointer (some ⟨b.D, 0, none⟩), .int .i64 0, .int .i64 0, .int .i64 0, .int .i64 0] : Array Value)[q]? = some v → At (w.alloc (.cells #[.pointer (some ⟨b.D, 0, none⟩), .int .i64 0, .int .i64 0, .int .i64 0, .int .i64 0] 50)) w.heap.size q v := fun q v hv => At.new w _ _ hv
  exact ⟨w.heap.size, Nat.le_refl _, rfl, ⟨h.fr fa (fun _ _ h => h), an 0 _ rfl, an 1 _ rfl, an 2 _ rfl, an 3 _ rfl, an 4 _ rfl, fun c => by have := h.lt _ c; omega, by simp⟩, fa⟩

def smR (i : Nat) : ByteArray :=
  match i with
  | 0 => ⟨#[]⟩
  | 1 => ⟨#[90]⟩
  | 2 => ⟨#[65]⟩
  | 3 => ⟨#[66, 50]⟩
  | 4 => ⟨#[66, 50, 50]⟩
  | 5 => ⟨#[78, 51]⟩
  | 6 => ⟨#[78, 52]⟩
  | 7 => ⟨#[83, 48, 51]⟩
  | 8 => ⟨#[83, 48, 48]⟩
  | 9 => ⟨#[84, 48, 49, 49, 48, 48]⟩
  | 10 => ⟨#[84, 48, 49, 49, 48, 48, 48]⟩
  | 11 => ⟨#[84, 48]⟩
  | 12 => ⟨#[84, 50, 49, 54, 48]⟩
  | 13 => ⟨#[88]⟩
  | 14 => ⟨#[88, 50, 49, 53, 48, 59]⟩
  | 15 => ⟨#[88, 51, 48, 53, 59, 50, 49, 49, 59]⟩
  | 16 => ⟨#[66, 51]⟩
  | _ => ⟨#[65, 65, 65, 65, 65, 65, 65, 65, 65, 65, 65, 65, 65, 65, 65, 65, 65, 65, 65, 65, 65]⟩
def smA (i : Nat) : ByteArray :=
  match i with
  | 0 => ⟨#[64, 48]⟩
  | 1 => ⟨#[64, 48]⟩
  | 2 => ⟨#[52, 48, 48]⟩
  | 3 => ⟨#[49, 48, 48]⟩
  | 4 => ⟨#[64, 50]⟩
  | 5 => ⟨#[100, 101, 101]⟩
  | 6 => ⟨#[]⟩
  | 7 => ⟨#[51, 51]⟩
  | 8 => ⟨#[]⟩
  | 9 => ⟨#[48]⟩
  | 10 => ⟨#[64, 54]⟩
  | 11 => ⟨#[64, 50]⟩
  | 12 => ⟨#[]⟩
  | 13 => ⟨#[64, 49]⟩
  | 14 => ⟨#[49]⟩
  | 15 => ⟨#[35, 49]⟩
  | 16 => ⟨#[49, 48, 48]⟩
  | _ => ⟨#[]⟩
def smE (i : Nat) : Int :=
  match i with
  | 0 => 8
  | 1 => 8
  | 2 => 0
  | 3 => 0
  | 4 => 8
  | 5 => 0
  | 6 => 9
  | 7 => 0
  | 8 => 9
  | 9 => 0
  | 10 => 8
  | 11 => 8
  | 12 => 7
  | 13 => 8
  | 14 => 0
  | 15 => 7
  | 16 => 0
  | _ => 1

theorem sample_any {i : Nat} (hi : i < 18) (w : World) : Calls Try.prog 18 #[.int .i64 (i : Int)] w fun e w' => e = .returned (.tuple #[.string (smR i), .string (smA i), .int .i64 (smE i)]) ∧ w' = w := by
  have key : i = 0 ∨ i = 1 ∨ i = 2 ∨ i = 3 ∨ i = 4 ∨ i = 5 ∨ i = 6 ∨ i = 7 ∨ i = 8 ∨ i = 9 ∨ i = 10 ∨ i = 11 ∨ i = 12 ∨ i = 13 ∨ i = 14 ∨ i = 15 ∨ i = 16 ∨ i = 17 := by omega
  rcases key with rfl | rfl | rfl | rfl | rfl | rfl | rfl | rfl | rfl | rfl | rfl | rfl | rfl | rfl | rfl | rfl | rfl | rfl
  all_goals
    go_enter Try.func18, Try.ntmps18
    go_wp2_with fail
    refine bodyPost_ret (v := .tuple #[.string _, .string _, .int .i64 _]) (by simp [results, Try.results18, go_sem]; exact ⟨rfl, rfl, rfl⟩) rfl ⟨rfl, rfl⟩

end Go.Proofs.Qxb6500452a
