/- The model gate: New, Ledger, Show; the real gate's Check. -/
import Derived.Test.Qxb6500452aGShow
import Derived.Test.Qxb6500452aHMov
namespace Go.Proofs.Qxb6500452a
open Go Go.RowKit
set_option maxRecDepth 100000
set_option maxHeartbeats 1600000
set_option linter.unusedSimpArgs false
set_option linter.unusedVariables false

structure GM (w : World) (Q X M : Nat) (s : Led) (c : Cts) : Prop where
  m : ML w X M s
  g0 : At w Q 0 (.pointer (some ⟨X, 0, none⟩))
  g1 : At w Q 1 (.int .i64 (c.ok : Int))
  g2 : At w Q 2 (.int .i64 (c.bad : Int))
  g3 : At w Q 3 (.int .i64 (c.err : Int))
  g4 : At w Q 4 (.int .i64 (c.inn : Int))
  ng : ¬ SM X M Q
  cl : c.ok ≤ 99 ∧ c.bad ≤ 99 ∧ c.err ≤ 99 ∧ c.inn ≤ 99
def SQ (X M Q : Nat) : Nat → Prop := fun i => SM X M i ∨ i = Q
theorem GM.fr {w w' : World} {Q X M : Nat} {s : Led} {c : Cts} (h : GM w Q X M s c) {S : Nat → Prop} (hf : Fr S w w') (hn : ∀ i, SQ X M Q i → ¬ S i) : GM w' Q X M s c :=
  ⟨h.m.fr hf (fun i c => hn i (.inl c)), h.g0.fr hf (hn _ (.inr rfl)), h.g1.fr hf (hn _ (.inr rfl)), h.g2.fr hf (hn _ (.inr rfl)), h.g3.fr hf (hn _ (.inr rfl)), h.g4.fr hf (hn _ (.inr rfl)), h.ng, h.cl⟩
theorem GM.lt {w : World} {Q X M : Nat} {s : Led} {c : Cts} (h : GM w Q X M s c) : ∀ i, SQ X M Q i → i < w.heap.size := by
  rintro i (c | c)
  · exact h.m.lt i c
  · rw [c]; exact h.g0.lt
theorem GM.led {w w' : World} {Q X M : Nat} {s s' : Led} {c : Cts} (h : GM w Q X M s c) (m : ML w' X M s') (hf : Fr (SM X M) w w') : GM w' Q X M s' c :=
  ⟨m, h.g0.fr hf h.ng, h.g1.fr hf h.ng, h.g2.fr hf h.ng, h.g3.fr hf h.ng, h.g4.fr hf h.ng, h.ng, h.cl⟩

theorem mgnew_any (w : World) : Calls Try.prog 40 #[] w fun e w' => ∃ Q X M, w.heap.size ≤ M ∧ M < X ∧ X < Q ∧ e = .returned (.pointer (some ⟨Q, 0, none⟩)) ∧ GM w' Q X M (led0 L.init) ⟨0, 0, 0, 0⟩ ∧ Fr (fun _ => False) w w' := by
  go_enter Try.func40, Try.ntmps40
  go_wp2_with fail
  refine (mlnew_any w).mono ?_
  rintro e w1 ⟨X, M, hM, hX, rfl, ml, f1⟩
  have ML1 := hid ml
  have F1 := hid f1
  clear ml f1
  go_wp2_with fail
  go_ret
  have fa := (Fr.refl (fun _ => False) w1).alloc (.cells #[.pointer (some ⟨X, 0, none⟩), .int .i64 0, .int .i64 0, .int .i64 0, .int .i64 0] 107)
  have an : ∀ q v, (#[.pointer (some ⟨X, 0, none⟩), .int .i64 0, .int .i64 0, .int .i64 0, .int .i64 0] : Array Value)[q]? = some v → At (w1.alloc (.cells #[.pointer (some ⟨X, 0, none⟩), .int .i64 0, .int .i64 0, .int .i64 0, .int .i64 0] 107)) w1.heap.size q v := fun q v hv => At.new w1 _ _ hv
  have hx := ML1.out.lt X (.inl rfl)
  exact ⟨w1.heap.size, X, M, hM, hX, hx, rfl, ⟨ML1.out.fr fa (fun _ _ h => h), an 0 _ rfl, an 1 _ rfl, an 2 _ rfl, an 3 _ rfl, an 4 _ rfl, fun c => by have := ML1.out.lt _ c; omega, by simp⟩, F1.out.trans fa⟩

theorem mledger_any {w : World} {Q X M : Nat} {s : Led} {c : Cts} (h : GM w Q X M s c) : Calls Try.prog 43 #[.pointer (some ⟨Q, 0, none⟩)] w fun e w' => e = .returned (.pointer (some ⟨X, 0, none⟩)) ∧ w' = w := by
  have c0 := h.g0.c
  clear h
  go_enter Try.func43, Try.ntmps43
  go_wp2_with fail
  go_ret
  exact ⟨rfl, rfl⟩

theorem mgshow_any {w : World} {Q X M : Nat} {s : Led} {c : Cts} (h : GM w Q X M s c) :
    Calls Try.prog 45 #[.pointer (some ⟨Q, 0, none⟩)] w fun e w' => e = .returned (.string (showG s c)) ∧ Fr (fun _ => False) w w' := by
  have H := hid h
  obtain ⟨l1, l2, l3, l4⟩ := h.cl
  have c1 := h.g1.c
  have z1 : (Ia.bs (Ia.itoa (c.ok : Int))).size ≤ 21 := by rw [Ia.bs_size]; exact Ia.itoa_len _
  have z2 : (Ia.bs (Ia.itoa (c.bad : Int))).size ≤ 21 := by rw [Ia.bs_size]; exact Ia.itoa_len _
  have z3 : (Ia.bs (Ia.itoa (c.err : Int))).size ≤ 21 := by rw [Ia.bs_size]; exact Ia.itoa_len _
  have z4 : (Ia.bs (Ia.itoa (c.inn : Int))).size ≤ 21 := by rw [Ia.bs_size]; exact Ia.itoa_len _
  have z5 : (L.bs (showD s)).size ≤ 300 := by
    rw [Lbs_size]
    have h1 := balL_len s.bal 4
    have h2 := Ia.itoa_len (s.un : Int)
    have h3 := h.m.mt.ok.len
    simp [showD, L.showL]; omega
  clear h
  unfold showG showH
  generalize hS : L.bs (showD s) = sd at *
  have HS := hid hS
  clear hS
  go_enter Try.func45, Try.ntmps45
  go_wp2_with fail
  refine (Ia.itoa_any (c.ok : Int) _ (by omega) (by omega)).mono ?_
  rintro e w1 ⟨rfl, f1⟩
  have F1 := hid f1
  have c2 := (H.out.g2.fr f1 (fun h => h)).c
  clear f1 c1
  go_wp2_with fail
  refine (Ia.itoa_any (c.bad : Int) _ (by omega) (by omega)).mono ?_
  rintro e w2 ⟨rfl, f2⟩
  have F2 := hid (F1.out.trans f2)
  have c3 := (H.out.g3.fr F2.out (fun h => h)).c
  clear f2 c2
  go_wp2_with fail
  refine (Ia.itoa_any (c.err : Int) _ (by omega) (by omega)).mono ?_
  rintro e w3 ⟨rfl, f3⟩
  have F3 := hid (F2.out.trans f3)
  have c4 := (H.out.g4.fr F3.out (fun h => h)).c
  clear f3 c3
  go_wp2_with fail
  refine (Ia.itoa_any (c.inn : Int) _ (by omega) (by omega)).mono ?_
  rintro e w4 ⟨rfl, f4⟩
  have F4 := hid (F3.out.trans f4)
  have c0 := (H.out.g0.fr F4.out (fun h => h)).c
  clear f4 c4
  go_wp2_with fail
  have hsh := mlshow_any (H.out.m.fr F4.out (fun _ _ h => h))
  rw [HS.out] at hsh
  refine hsh.mono ?_
  clear hsh
  rintro e w5 ⟨rfl, f5⟩
  go_wp2_with fail
  go_ret
  exact ⟨rfl, F4.out.trans f5⟩

end Go.Proofs.Qxb6500452a
