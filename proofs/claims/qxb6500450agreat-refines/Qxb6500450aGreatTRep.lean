/- The model of the query: its representation; New, Put, Del, DropGroup, Reset, Len, Show, Low. -/
import Derived.Test.Qxb6500450aGreatPShow
import Derived.Test.Qxb6500450aGreatQStep
namespace Go.Proofs.Qxb6500450aGreat
open Go Go.RowKit
set_option maxRecDepth 100000
set_option maxHeartbeats 1600000
set_option linter.unusedSimpArgs false
set_option linter.unusedVariables false
variable {bY bM : Nat}

/-- The model lies in the blocks of G: its cell bV, the index's model in GY. -/
structure VC (w : World) (G : Nat → Prop) (bV : Nat) (f : DocF) (r : Int → Nat) (bY bM : Nat) (GY : Nat → Prop) : Prop where
  v0 : At w bV 0 (.pointer (some ⟨bY, 0, none⟩))
  y : YR bM w GY bY f r
  gy : ∀ i, GY i → G i ∧ i < w.heap.size
  gv : G bV
  nv : ¬ GY bV
def VR (bY bM : Nat) (w : World) (G : Nat → Prop) (bV : Nat) (f : DocF) (r : Int → Nat) : Prop := ∃ GY, VC w G bV f r bY bM GY
section
variable {w w' : World} {F G : Nat → Prop} {bV : Nat} {f f' : DocF} {r r' : Int → Nat} {GY : Nat → Prop}
theorem VC.frw (h : VC w G bV f r bY bM GY) {S : Nat → Prop} (hf : Fr S w w') (hn : ∀ i, G i → ¬ S i) : VC w' G bV f r bY bM GY :=
  ⟨h.v0.fr hf (hn _ h.gv), h.y.frw hf (fun i hi => hn i (h.gy i hi).1), fun i hi => ⟨(h.gy i hi).1, Nat.lt_of_lt_of_le (h.gy i hi).2 hf.size⟩, h.gv, h.nv⟩
theorem VR.frw (h : VR bY bM w G bV f r) {S : Nat → Prop} (hf : Fr S w w') (hn : ∀ i, G i → ¬ S i) : VR bY bM w' G bV f r := by
  obtain ⟨GY, h⟩ := h
  exact ⟨GY, h.frw hf hn⟩
theorem VR.wide (h : VR bY bM w F bV f r) (hn : ∀ i, F i → G i) : VR bY bM w G bV f r := by
  obtain ⟨GY, h⟩ := h
  exact ⟨GY, { h with gy := fun i hi => ⟨hn i (h.gy i hi).1, (h.gy i hi).2⟩, gv := hn _ h.gv }⟩
theorem VR.bound (h : VR bY bM w G bV f r) : VR bY bM w (fun i => G i ∧ i < w.heap.size) bV f r := by
  obtain ⟨GY, h⟩ := h
  exact ⟨GY, { h with gy := fun i hi => ⟨⟨(h.gy i hi).1, (h.gy i hi).2⟩, (h.gy i hi).2⟩, gv := ⟨h.gv, h.v0.lt⟩ }⟩
theorem VR.ok (h : VR bY bM w G bV f r) : OkF f := by
  obtain ⟨GY, h⟩ := h
  exact h.y.ok
/-- Behind a changing call of the index's model. -/
theorem VC.under (h : VC w G bV f r bY bM GY) (hf : Fr GY w w') (hy : YR bM w' (fun i => GY i ∨ w.heap.size ≤ i) bY f' r') : VR bY bM w' (fun i => G i ∨ w.heap.size ≤ i) bV f' r' := by
  refine ⟨_, h.v0.fr hf h.nv, hy.bound, fun i hi => ⟨hi.1.elim (fun c => .inl (h.gy i c).1) .inr, hi.2⟩, .inl h.gv, fun c => ?_⟩
  rcases c.1 with c | c
  · exact h.nv c
  · have := h.v0.lt; omega
/-- Behind a question to the index's model. -/
theorem VC.asks (h : VC w G bV f r bY bM GY) (hf : Fr GY w w') (hy : YR bM w' GY bY f r) : VC w' G bV f r bY bM GY :=
  ⟨h.v0.fr hf h.nv, hy, fun i hi => ⟨(h.gy i hi).1, Nat.lt_of_lt_of_le (h.gy i hi).2 hf.size⟩, h.gv, h.nv⟩
theorem VC.up (h : VC w G bV f r bY bM GY) {a b : World} (hf : Fr GY a b) : Fr G a b := hf.mono (fun i _ c => (h.gy i c).1)
end

theorem vnew_any (w : World) : Calls Tryz.prog 11 #[] w fun e w' => ∃ bM bY bV, e = .returned (.pointer (some ⟨bV, 0, none⟩)) ∧ VR bY bM w' (fun i => w.heap.size ≤ i ∧ i < w'.heap.size) bV noD (fun _ => 0) ∧ Fr (fun _ => False) w w' := by
  go_enter Tryz.func11, Tryz.ntmps11
  go_wp2_with fail
  refine (ynew_any w).mono ?_
  rintro e w1 ⟨bM, bY, rfl, hm, hf⟩
  have HM := hid hm
  have HF := hid hf
  clear hm hf
  go_wp2_with fail
  go_ret
  have fa := (Fr.refl (fun _ => False) w1).alloc (.cells #[.pointer (some ⟨bY, 0, none⟩)] 55)
  have hs := HF.out.size
  refine ⟨bM, bY, w1.heap.size, rfl, ⟨fun i => w.heap.size ≤ i ∧ i < w1.heap.size, At.new w1 _ _ rfl, HM.out.frw fa (fun _ _ h => h), fun i e => ?_, ?_, fun e => ?_⟩, HF.out.trans fa⟩
  · simp only [World.size_alloc]
    omega
  · simp only [World.size_alloc]
    omega
  · have := e.2; omega

section
variable {w : World} {G : Nat → Prop} {bV : Nat} {f : DocF} {r : Int → Nat}
theorem vput_any (h : VR bY bM w G bV f r) (id g : Int) (t : ByteArray) (hr : ∀ k, r k < 4611686018427387904) :
    Calls Tryz.prog 33 #[.pointer (some ⟨bV, 0, none⟩), .int .i64 id, .int .i64 g, .string t] w fun e w' => e = .returned (.int .i64 (putE f id g t)) ∧ VR bY bM w' (fun i => G i ∨ w.heap.size ≤ i) bV (putF f id g t) (putR f r id g t) ∧ Fr G w w' := by
  have HW := hid (h.wide (G := fun i => G i ∨ w.heap.size ≤ i) (fun i hi => .inl hi))
  obtain ⟨GY, h⟩ := h
  have H := hid h
  by_cases ht : 12 < t.size
  · have HE : Hid (putE f id g t = 1) := by simp [Hid, putE, ht]
    have hti : (12 : Int) < (t.size : Int) := by omega
    clear ht h
    go_enter Tryz.func33, Tryz.ntmps33
    go_wp2_with fail
    go_ret
    have e1 : putF f id g t = f := by unfold putF; rw [HE.out]; rfl
    have e2 : putR f r id g t = r := by unfold putR; rw [HE.out]; rfl
    rw [HE.out, e1, e2]
    exact ⟨rfl, HW.out, Fr.refl _ _⟩
  · have hti : ¬ (12 : Int) < (t.size : Int) := by omega
    have c0 := h.v0.c
    have HP := hid (yput_any h.y (fun i hi => (h.gy i hi).2) id g t hr)
    clear h ht
    go_enter Tryz.func33, Tryz.ntmps33
    go_wp2_with fail
    refine HP.out.mono ?_
    rintro e w1 ⟨rfl, hy, hf⟩
    have HU := hid (H.out.under hf hy)
    have HF := hid (H.out.up hf)
    clear hy hf HP
    go_wp2_with fail
    go_ret
    exact ⟨rfl, HU.out, HF.out⟩

theorem vdel_any (h : VR bY bM w G bV f r) (id : Int) :
    Calls Tryz.prog 34 #[.pointer (some ⟨bV, 0, none⟩), .int .i64 id] w fun e w' => e = .returned (.int .i64 (delE f id)) ∧ VR bY bM w' (fun i => G i ∨ w.heap.size ≤ i) bV (delD f id) r ∧ Fr G w w' := by
  obtain ⟨GY, h⟩ := h
  have H := hid h
  have c0 := h.v0.c
  have HP := hid (ydel_any h.y (fun i hi => (h.gy i hi).2) id)
  clear h
  go_enter Tryz.func34, Tryz.ntmps34
  go_wp2_with fail
  refine HP.out.mono ?_
  rintro e w1 ⟨rfl, hy, hf⟩
  have HU := hid (H.out.under hf hy)
  have HF := hid (H.out.up hf)
  clear hy hf HP
  go_wp2_with fail
  go_ret
  exact ⟨rfl, HU.out, HF.out⟩

theorem vdrop_any (h : VR bY bM w G bV f r) (g : Int) :
    Calls Tryz.prog 35 #[.pointer (some ⟨bV, 0, none⟩), .int .i64 g] w fun e w' => e = .returned (.int .i64 (cnt f g : Int)) ∧ VR bY bM w' (fun i => G i ∨ w.heap.size ≤ i) bV (dropD f g) r ∧ Fr G w w' := by
  obtain ⟨GY, h⟩ := h
  have H := hid h
  have c0 := h.v0.c
  have HP := hid (ydrop_any h.y (fun i hi => (h.gy i hi).2) g)
  clear h
  go_enter Tryz.func35, Tryz.ntmps35
  go_wp2_with fail
  refine HP.out.mono ?_
  rintro e w1 ⟨rfl, hy, hf⟩
  have HU := hid (H.out.under hf hy)
  have HF := hid (H.out.up hf)
  clear hy hf HP
  go_wp2_with fail
  go_ret
  exact ⟨rfl, HU.out, HF.out⟩

theorem vreset_any (h : VR bY bM w G bV f r) :
    Calls Tryz.prog 40 #[.pointer (some ⟨bV, 0, none⟩)] w fun e w' => e = .returned (.int .i64 (nDocs f : Int)) ∧ VR bY bM w' (fun i => G i ∨ w.heap.size ≤ i) bV (noD) r ∧ Fr G w w' := by
  obtain ⟨GY, h⟩ := h
  have H := hid h
  have c0 := h.v0.c
  have HP := hid (yreset_any h.y)
  clear h
  go_enter Tryz.func40, Tryz.ntmps40
  go_wp2_with fail
  refine HP.out.mono ?_
  rintro e w1 ⟨rfl, hy, hf⟩
  have HU := hid (H.out.under hf hy)
  have HF := hid (H.out.up hf)
  clear hy hf HP
  go_wp2_with fail
  go_ret
  exact ⟨rfl, HU.out, HF.out⟩

theorem vlen_any (h : VR bY bM w G bV f r) :
    Calls Tryz.prog 39 #[.pointer (some ⟨bV, 0, none⟩)] w fun e w' => e = .returned (.int .i64 (nDocs f : Int)) ∧ VR bY bM w' G bV f r ∧ Fr G w w' := by
  obtain ⟨GY, h⟩ := h
  have H := hid h
  have c0 := h.v0.c
  have HP := hid (ylen_any h.y)
  clear h
  go_enter Tryz.func39, Tryz.ntmps39
  go_wp2_with fail
  refine HP.out.mono ?_
  rintro e w1 ⟨rfl, hy, hf⟩
  have HU := hid (H.out.asks hf hy)
  have HF := hid (H.out.up hf)
  clear hy hf HP
  go_wp2_with fail
  go_ret
  exact ⟨rfl, ⟨_, HU.out⟩, HF.out⟩

theorem vshow_any (h : VR bY bM w G bV f r) (hr : ∀ k, r k < 4611686018427387904) :
    Calls Tryz.prog 17 #[.pointer (some ⟨bV, 0, none⟩)] w fun e w' => e = .returned (.string (bs (showI f r))) ∧ VR bY bM w' G bV f r ∧ Fr G w w' := by
  obtain ⟨GY, h⟩ := h
  have H := hid h
  have c0 := h.v0.c
  have HP := hid (yshow_any h.y (fun i hi => (h.gy i hi).2) hr)
  clear h
  go_enter Tryz.func17, Tryz.ntmps17
  go_wp2_with fail
  refine HP.out.mono ?_
  rintro e w1 ⟨rfl, hy, hf⟩
  have HU := hid (H.out.asks hf hy)
  have HF := hid (H.out.up hf)
  clear hy hf HP
  go_wp2_with fail
  go_ret
  exact ⟨rfl, ⟨_, HU.out⟩, HF.out⟩

theorem vlow_any (h : VR bY bM w G bV f r) (hr : ∀ k, r k < 4611686018427387904) :
    Calls Tryz.prog 42 #[.pointer (some ⟨bV, 0, none⟩)] w fun e w' => e = .returned (.string (bs (showI f r))) ∧ VR bY bM w' G bV f r ∧ Fr G w w' := by
  obtain ⟨GY, h⟩ := h
  have H := hid h
  have c0 := h.v0.c
  have HP := hid (yshow_any h.y (fun i hi => (h.gy i hi).2) hr)
  clear h
  go_enter Tryz.func42, Tryz.ntmps42
  go_wp2_with fail
  refine HP.out.mono ?_
  rintro e w1 ⟨rfl, hy, hf⟩
  have HU := hid (H.out.asks hf hy)
  have HF := hid (H.out.up hf)
  clear hy hf HP
  go_wp2_with fail
  go_ret
  exact ⟨rfl, ⟨_, HU.out⟩, HF.out⟩
end

end Go.Proofs.Qxb6500450aGreat
