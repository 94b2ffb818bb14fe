/- The model of the index: its representation; New, Put, Del, DropGroup, Reset, Len, Group, Low. -/
import Derived.Test.Qxb6500450aGreatPCut
import Derived.Test.Qxb6500450aGreatMDrop
import Derived.Test.Qxb6500450aGreatMPut
import Derived.Test.Qxb6500450aGreatMDel
namespace Go.Proofs.Qxb6500450aGreat
open Go Go.RowKit
set_option maxRecDepth 100000
set_option maxHeartbeats 1600000
set_option linter.unusedSimpArgs false
set_option linter.unusedVariables false
variable {bM : Nat}

/-- The model lies in the blocks of G: its own cells bY, the store's model in GS. -/
structure YC (w : World) (G : Nat → Prop) (bY : Nat) (f : DocF) (r : Int → Nat) (bM : Nat) (GS : Nat → Prop) : Prop where
  y0 : At w bY 0 (.pointer (some ⟨bM, 0, none⟩))
  y1 : ∃ x : Int, At w bY 1 (.int .i64 x)
  mr : MR w GS bM f r
  gs : ∀ i, GS i → G i ∧ i < w.heap.size
  gy : G bY
  ny : ¬ GS bY
def YR (bM : Nat) (w : World) (G : Nat → Prop) (bY : Nat) (f : DocF) (r : Int → Nat) : Prop := ∃ GS, YC w G bY f r bM GS
section
variable {w w' : World} {F G : Nat → Prop} {bY : Nat} {f : DocF} {r : Int → Nat} {GS : Nat → Prop}
theorem YC.frw (h : YC w G bY f r bM GS) {S : Nat → Prop} (hf : Fr S w w') (hn : ∀ i, G i → ¬ S i) : YC w' G bY f r bM GS := by
  obtain ⟨x, h1⟩ := h.y1
  exact ⟨h.y0.fr hf (hn _ h.gy), ⟨x, h1.fr hf (hn _ h.gy)⟩, h.mr.frw hf (fun i hi => hn i (h.gs i hi).1), fun i hi => ⟨(h.gs i hi).1, Nat.lt_of_lt_of_le (h.gs i hi).2 hf.size⟩, h.gy, h.ny⟩
theorem YR.frw (h : YR bM w G bY f r) {S : Nat → Prop} (hf : Fr S w w') (hn : ∀ i, G i → ¬ S i) : YR bM w' G bY f r := by
  obtain ⟨GS, h⟩ := h
  exact ⟨GS, h.frw hf hn⟩
theorem YR.wide (h : YR bM w F bY f r) (hn : ∀ i, F i → G i) : YR bM w G bY f r := by
  obtain ⟨GS, h⟩ := h
  exact ⟨GS, { h with gs := fun i hi => ⟨hn i (h.gs i hi).1, (h.gs i hi).2⟩, gy := hn _ h.gy }⟩
theorem YR.bound (h : YR bM w G bY f r) : YR bM w (fun i => G i ∧ i < w.heap.size) bY f r := by
  obtain ⟨GS, h⟩ := h
  exact ⟨GS, { h with gs := fun i hi => ⟨⟨(h.gs i hi).1, (h.gs i hi).2⟩, (h.gs i hi).2⟩, gy := ⟨h.gy, h.y0.lt⟩ }⟩
theorem YR.ok (h : YR bM w G bY f r) : OkF f := by
  obtain ⟨GS, h⟩ := h
  exact h.mr.ok
theorem YR.lt (h : YR bM w G bY f r) : bY < w.heap.size := by
  obtain ⟨GS, h⟩ := h
  exact h.y0.lt
theorem YR.gy (h : YR bM w G bY f r) : G bY := by
  obtain ⟨GS, h⟩ := h
  exact h.gy
/-- Behind a call of the store's model. -/
theorem YC.under (h : YC w G bY f r bM GS) {f' : DocF} {r' : Int → Nat} (hf : Fr GS w w') (hm : MR w' (fun i => GS i ∨ w.heap.size ≤ i) bM f' r') : YR bM w' (fun i => G i ∨ w.heap.size ≤ i) bY f' r' := by
  obtain ⟨x, h1⟩ := h.y1
  refine ⟨_, h.y0.fr hf h.ny, ⟨x, h1.fr hf h.ny⟩, hm.bound, fun i hi => ⟨hi.1.elim (fun c => .inl (h.gs i c).1) .inr, hi.2⟩, .inl h.gy, fun c => ?_⟩
  rcases c.1 with c | c
  · exact h.ny c
  · have := h.y0.lt; omega
/-- Behind a question to the store's model. -/
theorem YC.asks (h : YC w G bY f r bM GS) (hf : Fr (fun i => i = bM) w w') (hm : MR w' GS bM f r) : YC w' G bY f r bM GS := by
  obtain ⟨x, h1⟩ := h.y1
  have ny : ¬ bY = bM := fun e => h.ny (e ▸ h.mr.gM)
  exact ⟨h.y0.fr hf ny, ⟨x, h1.fr hf ny⟩, hm, fun i hi => ⟨(h.gs i hi).1, Nat.lt_of_lt_of_le (h.gs i hi).2 hf.size⟩, h.gy, h.ny⟩
theorem YC.asked (h : YC w G bY f r bM GS) (y : Int) : YC (w.setCell ⟨bY, 1, none⟩ (.int .i64 y)) G bY f r bM GS := by
  obtain ⟨x, h1⟩ := h.y1
  have hf := (Fr.refl (fun i => i = bY) w).setCell (p := ⟨bY, 1, none⟩) (fun _ => rfl) (.int .i64 y)
  exact ⟨h.y0.other (by omega) _, ⟨y, h1.same _⟩, h.mr.frw hf (fun i hi e => h.ny (e ▸ hi)), fun i hi => ⟨(h.gs i hi).1, Nat.lt_of_lt_of_le (h.gs i hi).2 hf.size⟩, h.gy, h.ny⟩
theorem YC.gM (h : YC w G bY f r bM GS) : G bM := (h.gs _ h.mr.gM).1
end

theorem ynew_any (w : World) : Calls Tryz.prog 21 #[] w fun e w' => ∃ bM bY, e = .returned (.pointer (some ⟨bY, 0, none⟩)) ∧ YR bM w' (fun i => w.heap.size ≤ i ∧ i < w'.heap.size) bY noD (fun _ => 0) ∧ Fr (fun _ => False) w w' := by
  go_enter Tryz.func21, Tryz.ntmps21
  go_wp2_with fail
  refine (mnew_any w).mono ?_
  rintro e w1 ⟨rfl, hm, hf⟩
  have HM := hid hm
  have HF := hid hf
  clear hm hf
  generalize hbm : w.heap.size = bM at *
  have HBM := hid hbm
  clear hbm
  go_wp2_with fail
  go_ret
  have g : ∀ {o v}, (#[.pointer (some ⟨bM, 0, none⟩), .int .i64 0] : Array Value)[o]? = some v → At (w1.alloc (.cells #[.pointer (some ⟨bM, 0, none⟩), .int .i64 0] 84)) w1.heap.size o v := fun h => At.new w1 _ _ h
  have fa := (Fr.refl (fun _ => False) w1).alloc (.cells #[.pointer (some ⟨bM, 0, none⟩), .int .i64 0] 84)
  have hl := HM.out.lt
  have hs := HF.out.size
  have hb := HBM.out
  refine ⟨bM, w1.heap.size, rfl, ⟨fun i => i = bM, g rfl, ⟨0, g rfl⟩, HM.out.frw fa (fun _ _ h => h), fun i e => ?_, ?_, fun e => ?_⟩, HF.out.trans fa⟩
  · have e' : i = bM := e
    simp only [World.size_alloc]
    omega
  · simp only [World.size_alloc]
    omega
  · have e' : w1.heap.size = bM := e
    omega

section
variable {w : World} {G : Nat → Prop} {bY : Nat} {f : DocF} {r : Int → Nat}
theorem yput_any (h : YR bM w G bY f r) (hG : ∀ i, G i → i < w.heap.size) (id g : Int) (t : ByteArray) (hr : ∀ k, r k < 4611686018427387904) :
    Calls Tryz.prog 64 #[.pointer (some ⟨bY, 0, none⟩), .int .i64 id, .int .i64 g, .string t] w fun e w' => e = .returned (.int .i64 (putE f id g t)) ∧ YR bM w' (fun i => G i ∨ w.heap.size ≤ i) bY (putF f id g t) (putR f r id g t) ∧ Fr G w w' := by
  have HW := hid (h.wide (G := fun i => G i ∨ w.heap.size ≤ i) (fun i hi => .inl hi))
  obtain ⟨GS, h⟩ := h
  have H := hid h
  by_cases ht : 12 < t.size
  · have HE : Hid (putE f id g t = 1) := by simp [Hid, putE, ht]
    have hti : (12 : Int) < (t.size : Int) := by omega
    clear ht h
    go_enter Tryz.func64, Tryz.ntmps64
    go_wp2_with fail
    go_ret
    have e1 : putF f id g t = f := by unfold putF; rw [HE.out]; rfl
    have e2 : putR f r id g t = r := by unfold putR; rw [HE.out]; rfl
    rw [HE.out, e1, e2]
    exact ⟨rfl, HW.out, Fr.refl _ _⟩
  · have hti : ¬ (12 : Int) < (t.size : Int) := by omega
    have c0 := h.y0.c
    have HP := hid (mput_any h.mr (fun i hi => (h.gs i hi).2) id g t hr)
    clear h ht
    go_enter Tryz.func64, Tryz.ntmps64
    go_wp2_with fail
    refine HP.out.mono ?_
    rintro e w1 ⟨rfl, hm, hf⟩
    have HU := hid (H.out.under hf hm)
    have HF := hid (hf.mono (S' := G) (fun i _ c => (H.out.gs i c).1))
    clear hm hf HP
    go_wp2_with fail
    go_ret
    exact ⟨rfl, HU.out, HF.out⟩

theorem ydel_any (h : YR bM w G bY f r) (hG : ∀ i, G i → i < w.heap.size) (id : Int) :
    Calls Tryz.prog 65 #[.pointer (some ⟨bY, 0, none⟩), .int .i64 id] w fun e w' => e = .returned (.int .i64 (delE f id)) ∧ YR bM w' (fun i => G i ∨ w.heap.size ≤ i) bY (delD f id) r ∧ Fr G w w' := by
  obtain ⟨GS, h⟩ := h
  have H := hid h
  have c0 := h.y0.c
  have HP := hid (mdel_any h.mr (fun i hi => (h.gs i hi).2) id)
  clear h
  go_enter Tryz.func65, Tryz.ntmps65
  go_wp2_with fail
  refine HP.out.mono ?_
  rintro e w1 ⟨rfl, hm, hf0⟩
  have hf : Fr GS w w1 := hf0.mono (fun i _ e => e ▸ H.out.mr.gM)
  have HU := hid (H.out.under hf hm)
  have HF := hid (hf.mono (S' := G) (fun i _ c => (H.out.gs i c).1))
  clear hm hf hf0 HP
  go_wp2_with fail
  go_ret
  exact ⟨rfl, HU.out, HF.out⟩

theorem ydrop_any (h : YR bM w G bY f r) (hG : ∀ i, G i → i < w.heap.size) (g : Int) :
    Calls Tryz.prog 66 #[.pointer (some ⟨bY, 0, none⟩), .int .i64 g] w fun e w' => e = .returned (.int .i64 (cnt f g : Int)) ∧ YR bM w' (fun i => G i ∨ w.heap.size ≤ i) bY (dropD f g) r ∧ Fr G w w' := by
  obtain ⟨GS, h⟩ := h
  have H := hid h
  have c0 := h.y0.c
  have HP := hid (mdrop_any h.mr (fun i hi => (h.gs i hi).2) g)
  clear h
  go_enter Tryz.func66, Tryz.ntmps66
  go_wp2_with fail
  refine HP.out.mono ?_
  rintro e w1 ⟨rfl, hm, hf0⟩
  have hf : Fr GS w w1 := hf0.mono (fun i _ e => e ▸ H.out.mr.gM)
  have HU := hid (H.out.under hf hm)
  have HF := hid (hf.mono (S' := G) (fun i _ c => (H.out.gs i c).1))
  clear hm hf hf0 HP
  go_wp2_with fail
  go_ret
  exact ⟨rfl, HU.out, HF.out⟩

theorem yreset_any (h : YR bM w G bY f r) :
    Calls Tryz.prog 73 #[.pointer (some ⟨bY, 0, none⟩)] w fun e w' => e = .returned (.int .i64 (nDocs f : Int)) ∧ YR bM w' (fun i => G i ∨ w.heap.size ≤ i) bY noD r ∧ Fr G w w' := by
  obtain ⟨GS, h⟩ := h
  have H := hid h
  have c0 := h.y0.c
  have HP := hid (mreset_any h.mr)
  clear h
  go_enter Tryz.func73, Tryz.ntmps73
  go_wp2_with fail
  refine HP.out.mono ?_
  rintro e w1 ⟨rfl, hm, hf0⟩
  have hf : Fr GS w w1 := hf0.mono (fun i _ e => e ▸ H.out.mr.gM)
  have HU := hid (H.out.under hf (hm.wide (fun i hi => .inl hi)))
  have HF := hid (hf.mono (S' := G) (fun i _ c => (H.out.gs i c).1))
  clear hm hf hf0 HP
  go_wp2_with fail
  go_ret
  exact ⟨rfl, HU.out, HF.out⟩

theorem ylen_any (h : YR bM w G bY f r) :
    Calls Tryz.prog 72 #[.pointer (some ⟨bY, 0, none⟩)] w fun e w' => e = .returned (.int .i64 (nDocs f : Int)) ∧ YR bM w' G bY f r ∧ Fr G w w' := by
  obtain ⟨GS, h⟩ := h
  obtain ⟨x, h4⟩ := h.y1
  have c1 := h4.c
  have x1 := h4.f
  have HA := hid (h.asked (wrap64 (x + 1)))
  have FA := hid ((Fr.refl G w).setCell (p := ⟨bY, 1, none⟩) (fun _ => h.gy) (.int .i64 (wrap64 (x + 1))))
  clear h h4
  go_enter Tryz.func72, Tryz.ntmps72
  go_upto_region 2 with fail
  generalize w.setCell ⟨bY, 1, none⟩ (.int .i64 (wrap64 (x + 1))) = w1 at *
  clear c1 x1
  have c0 := HA.out.y0.c
  go_wp2_with fail
  refine (mlen_any HA.out.mr).mono ?_
  rintro e w2 ⟨rfl, hm, hf⟩
  have HU := hid (HA.out.asks hf hm)
  have HF := hid (FA.out.trans (hf.mono (S' := G) (fun i _ e => e ▸ HA.out.gM)))
  clear hm hf
  go_wp2_with fail
  go_ret
  exact ⟨rfl, ⟨_, HU.out⟩, HF.out⟩

theorem YR.at (h : YR bM w G bY f r) : At w bY 0 (.pointer (some ⟨bM, 0, none⟩)) := by
  obtain ⟨GS, h⟩ := h
  exact h.y0
end

end Go.Proofs.Qxb6500450aGreat
