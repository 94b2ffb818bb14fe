/- The query's other functions: New, Put, Del, DropGroup, Reset, Len, Show, Check. -/
import Derived.Test.Qxb6500450aGreatQTop3
namespace Go.Proofs.Qxb6500450aGreat
open Go Go.RowKit
set_option maxRecDepth 100000
set_option maxHeartbeats 1600000
set_option linter.unusedSimpArgs false
set_option linter.unusedVariables false
variable {bS bX : Nat}

theorem qnew_any {w : World} {FX : Nat → Prop} {f : DocF} {r : Int → Nat} (h : XR bS w FX bX f r) (hb : ∀ i, FX i → i < w.heap.size) :
    Calls Tryz.prog 9 #[.pointer (some ⟨bX, 0, none⟩)] w fun e w' => e = .returned (.pointer (some ⟨w.heap.size, 0, none⟩)) ∧ QR bX bS w' (fun i => FX i ∨ i = w.heap.size) w.heap.size f r ∧ Fr (fun _ => False) w w' := by
  have H := hid h
  have HB := hid hb
  clear h hb
  go_enter Tryz.func9, Tryz.ntmps9
  go_wp2_with fail
  go_ret
  have fa := (Fr.refl (fun _ => False) w).alloc (.cells #[.pointer (some ⟨bX, 0, none⟩)] 51)
  exact ⟨rfl, ⟨FX, At.new w _ _ rfl, H.out.frw fa (fun _ _ h => h), fun i hi => ⟨.inl hi, by have := HB.out i hi; simp; omega⟩, .inr rfl, fun c => by have := HB.out _ c; omega⟩, fa⟩

section
variable {w : World} {F : Nat → Prop} {bQ : Nat} {f : DocF} {r : Int → Nat}
theorem qput_any (h : QR bX bS w F bQ f r) (id g : Int) (t : ByteArray) (hr : ∀ k, r k < 4611686018427387904) :
    Calls Tryz.prog 22 #[.pointer (some ⟨bQ, 0, none⟩), .int .i64 id, .int .i64 g, .string t] w fun e w' => e = .returned (.int .i64 (putE f id g t)) ∧ QR bX bS w' (fun i => F i ∨ w.heap.size ≤ i) bQ (putF f id g t) (putR f r id g t) ∧ Fr F w w' := by
  have HW := hid (h.wide (G := fun i => F i ∨ w.heap.size ≤ i) (fun i hi => .inl hi))
  obtain ⟨FX, h⟩ := h
  have H := hid h
  by_cases ht : 12 < t.size
  · have HE : Hid (putE f id g t = 1) := by simp [Hid, putE, ht]
    have hti : (12 : Int) < (t.size : Int) := by omega
    clear ht h
    go_enter Tryz.func22, Tryz.ntmps22
    go_wp2_with fail
    go_ret
    have e1 : putF f id g t = f := by unfold putF; rw [HE.out]; rfl
    have e2 : putR f r id g t = r := by unfold putR; rw [HE.out]; rfl
    rw [HE.out, e1, e2]
    exact ⟨rfl, HW.out, Fr.refl _ _⟩
  · have hti : ¬ (12 : Int) < (t.size : Int) := by omega
    have c0 := h.q0.c
    have HP := hid (iput_any h.x (fun i hi => (h.fx i hi).2) id g t hr)
    clear h ht
    go_enter Tryz.func22, Tryz.ntmps22
    go_wp2_with fail
    refine HP.out.mono ?_
    rintro e w1 ⟨rfl, hx, hf⟩
    have HU := hid (H.out.under hf hx)
    have HF := hid (hf.mono (S' := F) (fun i _ c => (H.out.fx i c).1))
    clear hx hf HP
    go_wp2_with fail
    go_ret
    exact ⟨rfl, HU.out, HF.out⟩

theorem qdel_any (h : QR bX bS w F bQ f r) (id : Int) :
    Calls Tryz.prog 23 #[.pointer (some ⟨bQ, 0, none⟩), .int .i64 id] w fun e w' => e = .returned (.int .i64 (delE f id)) ∧ QR bX bS w' (fun i => F i ∨ w.heap.size ≤ i) bQ (delD f id) r ∧ Fr F w w' := by
  obtain ⟨FX, h⟩ := h
  have H := hid h
  have c0 := h.q0.c
  have HP := hid (idel_any h.x (fun i hi => (h.fx i hi).2) id)
  clear h
  go_enter Tryz.func23, Tryz.ntmps23
  go_wp2_with fail
  refine HP.out.mono ?_
  rintro e w1 ⟨rfl, hx, hf⟩
  have HU := hid (H.out.under hf (hx.wide (fun i hi => .inl hi)))
  have HF := hid (hf.mono (S' := F) (fun i _ c => (H.out.fx i c).1))
  clear hx hf HP
  go_wp2_with fail
  go_ret
  exact ⟨rfl, HU.out, HF.out⟩

theorem qdrop_any (h : QR bX bS w F bQ f r) (g : Int) :
    Calls Tryz.prog 24 #[.pointer (some ⟨bQ, 0, none⟩), .int .i64 g] w fun e w' => e = .returned (.int .i64 (cnt f g : Int)) ∧ QR bX bS w' (fun i => F i ∨ w.heap.size ≤ i) bQ (dropD f g) r ∧ Fr F w w' := by
  obtain ⟨FX, h⟩ := h
  have H := hid h
  have c0 := h.q0.c
  have HP := hid (idrop_any h.x (fun i hi => (h.fx i hi).2) g)
  clear h
  go_enter Tryz.func24, Tryz.ntmps24
  go_wp2_with fail
  refine HP.out.mono ?_
  rintro e w1 ⟨rfl, hx, hf⟩
  have HU := hid (H.out.under hf (hx.wide (fun i hi => .inl hi)))
  have HF := hid (hf.mono (S' := F) (fun i _ c => (H.out.fx i c).1))
  clear hx hf HP
  go_wp2_with fail
  go_ret
  exact ⟨rfl, HU.out, HF.out⟩

theorem qreset_any (h : QR bX bS w F bQ f r) :
    Calls Tryz.prog 32 #[.pointer (some ⟨bQ, 0, none⟩)] w fun e w' => e = .returned (.int .i64 (nDocs f : Int)) ∧ QR bX bS w' (fun i => F i ∨ w.heap.size ≤ i) bQ noD r ∧ Fr F w w' := by
  obtain ⟨FX, h⟩ := h
  have H := hid h
  have c0 := h.q0.c
  have HP := hid (ireset_any h.x)
  clear h
  go_enter Tryz.func32, Tryz.ntmps32
  go_wp2_with fail
  refine HP.out.mono ?_
  rintro e w1 ⟨rfl, hx, hf⟩
  have HU := hid (H.out.under hf (hx.wide (fun i hi => .inl hi)))
  have HF := hid (hf.mono (S' := F) (fun i _ c => (H.out.fx i c).1))
  clear hx hf HP
  go_wp2_with fail
  go_ret
  exact ⟨rfl, HU.out, HF.out⟩

theorem qlen_any (h : QR bX bS w F bQ f r) :
    Calls Tryz.prog 31 #[.pointer (some ⟨bQ, 0, none⟩)] w fun e w' => e = .returned (.int .i64 (nDocs f : Int)) ∧ w' = w := by
  obtain ⟨FX, h⟩ := h
  have c0 := h.q0.c
  have HP := hid (ilen_any h.x)
  clear h
  go_enter Tryz.func31, Tryz.ntmps31
  go_wp2_with fail
  refine HP.out.mono ?_
  rintro e w1 ⟨rfl, hw⟩
  obtain rfl := hw.symm
  go_wp2_with fail
  go_ret
  exact ⟨rfl, rfl⟩

theorem qshow_any (h : QR bX bS w F bQ f r) (hr : ∀ k, r k < 4611686018427387904) :
    Calls Tryz.prog 16 #[.pointer (some ⟨bQ, 0, none⟩)] w fun e w' => e = .returned (.string (bs (showI f r))) ∧ Fr (fun _ => False) w w' := by
  obtain ⟨FX, h⟩ := h
  have c0 := h.q0.c
  have HP := hid (ishow_any h.x hr)
  clear h
  go_enter Tryz.func16, Tryz.ntmps16
  go_wp2_with fail
  refine HP.out.mono ?_
  rintro e w1 ⟨rfl, hf⟩
  have HF := hid hf
  clear hf HP
  go_wp2_with fail
  go_ret
  exact ⟨rfl, HF.out⟩

theorem qcheck_any (h : QR bX bS w F bQ f r) :
    Calls Tryz.prog 18 #[.pointer (some ⟨bQ, 0, none⟩)] w fun e w' => e = .returned (.bool true) ∧ w' = w := by
  obtain ⟨FX, h⟩ := h
  have c0 := h.q0.c
  have hne : ∀ W, (binOp BinOp.neq 27 (.pointer (some ⟨bX, 0, none⟩)) (.pointer none)).run Tryz.prog W = .ok (.bool true) W := fun W => by kernel_rfl
  clear h
  go_enter Tryz.func18, Tryz.ntmps18
  go_wp2_with fail
  go_ret
  exact ⟨rfl, rfl⟩
end

end Go.Proofs.Qxb6500450aGreat
