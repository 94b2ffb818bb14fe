/- Ground, Low, Twin. -/
import Derived.Test.Qxb6500450aGreatQDo
import Derived.Test.Qxb6500450aGreatQStep
namespace Go.Proofs.Qxb6500450aGreat
open Go Go.RowKit
set_option maxRecDepth 100000
set_option maxHeartbeats 1600000
set_option linter.unusedSimpArgs false
set_option linter.unusedVariables false
variable {bS bX : Nat}

def bwV (bX : Nat) : Value := .agg #[.pointer (some ⟨bX, 0, none⟩)]
theorem ground_any (w : World) : Calls Tryz.prog 8 #[] w fun e w' => ∃ b bS, e = .returned (bwV b) ∧ w.heap.size ≤ b ∧ XR bS w' (fun i => w.heap.size ≤ i ∧ i < w'.heap.size) b noD (fun _ => 0) ∧ Fr (fun _ => False) w w' := by
  have FA := hid ((Fr.refl (fun _ => False) w).alloc (.cells #[.pointer none] 29))
  have A0 : Hid (At (w.alloc (.cells #[.pointer none] 29)) w.heap.size 0 (.pointer none)) := At.new w _ _ rfl
  have HZ : Hid ((w.alloc (.cells #[.pointer none] 29)).heap.size = w.heap.size + 1) := by simp [Hid]
  go_enter Tryz.func8, Tryz.ntmps8
  go_wp2_with fail
  refine (new_any _).mono ?_
  rintro e w1 ⟨rfl, hr, f1⟩
  rw [HZ.out] at hr ⊢
  have HR := hid hr.within
  have F1 := hid (FA.out.trans f1)
  have A1 := hid (A0.out.fr f1 (fun h => h))
  clear hr f1
  obtain ⟨bS, hb⟩ : ∃ b, b = w.heap.size + 1 + 3 := ⟨_, rfl⟩
  rw [← hb] at HR ⊢
  clear hb
  obtain ⟨p, hp⟩ : ∃ p, p = w.heap.size := ⟨_, rfl⟩
  rw [← hp] at A1 ⊢
  have HP := hid hp
  clear hp
  go_wp2_with fail
  refine (inew_any HR.out (fun i hi => hi.2)).mono ?_
  rintro e w2 ⟨b, rfl, hb, xr, f2⟩
  have XX := hid xr
  have F2 := hid (F1.out.trans f2)
  have A2 := hid (A1.out.fr f2 (fun h => h))
  have HB : Hid (w.heap.size + 1 ≤ w1.heap.size ∧ w1.heap.size ≤ b) := ⟨by have := A1.out.lt; have := HP.out; omega, hb⟩
  clear xr f2 hb
  have c0 := A2.out.c
  have f0 := A2.out.f
  go_wp2_with fail
  have g : Fr (fun i => i = p) w2 (w2.setCell ⟨p, 0, none⟩ (.pointer (some ⟨b, 0, none⟩))) := (Fr.refl (fun i => i = p) w2).setCell (p := ⟨p, 0, none⟩) (fun _ => rfl) _
  have hsz : (w2.setCell ⟨p, 0, none⟩ (.pointer (some ⟨b, 0, none⟩))).heap.size = w2.heap.size := by simp
  have z0 := (A2.out.same (.pointer (some ⟨b, 0, none⟩))).c
  generalize w2.setCell ⟨p, 0, none⟩ (.pointer (some ⟨b, 0, none⟩)) = W at *
  have hp := HP.out
  have hbb := HB.out
  refine ⟨rfl, _, by simp [results, Tryz.results8, go_sem, z0]; rfl, b, bS, rfl, by omega, ?_, ?_⟩
  · refine ((XX.out.bound).frw g (fun i hi e => ?_)).wide (fun i hi => ⟨?_, by rw [hsz]; exact hi.2⟩)
    · rcases hi.1 with hi | hi
      · have := hi.1; omega
      · omega
    · rcases hi.1 with hi | hi
      · have := hi.1; omega
      · omega
  · exact F2.out.then g (fun i hi e => by omega)

theorem low_any {w : World} {F : Nat → Prop} {f : DocF} {r : Int → Nat} (h : XR bS w F bX f r) (hr : ∀ k, r k < 4611686018427387904) :
    Calls Tryz.prog 41 #[bwV bX] w fun e w' => e = .returned (.string (bs (showI f r))) ∧ Fr (fun _ => False) w w' := by
  have FA := hid ((Fr.refl (fun _ => False) w).alloc (.cells #[.pointer (some ⟨bX, 0, none⟩)] 29))
  have H1 := hid (ishow_any (h.frw FA.out (fun _ _ h => h)) hr)
  clear h hr
  unfold bwV
  go_enter Tryz.func41, Tryz.ntmps41
  go_wp2_with fail
  refine H1.out.mono ?_
  rintro e w1 ⟨rfl, f1⟩
  have F1 := hid (FA.out.trans f1)
  clear f1
  go_wp2_with fail
  go_ret
  exact ⟨rfl, F1.out⟩

theorem twin_end {w w1 : World} {F : Nat → Prop} {f' : DocF} {r' : Int → Nat} {c0 c1 c2 : Obj} (hF : ∀ i, F i → i < w.heap.size) (hr : XR bS w1 (fun i => F i ∨ w.heap.size + 3 ≤ i) bX f' r') (hf : Fr F (((w.alloc c0).alloc c1).alloc c2) w1) (v0 v1 v2 v3 : Value) {pa : Nat} (hpa : pa = w.heap.size + 1 + 1) :
    XR bS ((((w1.setCell ⟨pa, 0, none⟩ v0).setCell ⟨pa, 1, none⟩ v1).setCell ⟨pa, 2, none⟩ v2).setCell ⟨pa, 3, none⟩ v3) (grow F w ((((w1.setCell ⟨pa, 0, none⟩ v0).setCell ⟨pa, 1, none⟩ v1).setCell ⟨pa, 2, none⟩ v2).setCell ⟨pa, 3, none⟩ v3)) bX f' r' ∧
    Fr F w ((((w1.setCell ⟨pa, 0, none⟩ v0).setCell ⟨pa, 1, none⟩ v1).setCell ⟨pa, 2, none⟩ v2).setCell ⟨pa, 3, none⟩ v3) := by
  have hb := box_fr w1 pa v0 v1 v2 v3
  generalize (((w1.setCell ⟨pa, 0, none⟩ v0).setCell ⟨pa, 1, none⟩ v1).setCell ⟨pa, 2, none⟩ v2).setCell ⟨pa, 3, none⟩ v3 = w2 at *
  have hs := hf.size
  simp only [World.size_alloc] at hs
  refine ⟨((hr.frw hb (fun i hi e => ?_)).bound).wide (fun i hi => ?_), ((((Fr.refl F w).alloc _).alloc _).alloc _ |>.trans hf).then hb (fun i hi e => by omega)⟩
  · rcases hi with hi | hi
    · have := hF i hi; omega
    · omega
  · obtain ⟨h1, h2⟩ := hi
    rcases h1 with h1 | h1
    · exact .inl h1
    · exact .inr ⟨by omega, h2⟩
theorem twin_box {w w1 : World} {F : Nat → Prop} (hF : ∀ i, F i → i < w.heap.size) {c0 c : Obj} (hf : Fr F (((w.alloc c0).alloc c).alloc (.cells #[.int .i64 0, .int .i64 0, .int .i64 0, .string ⟨#[]⟩] 41)) w1) : Box w1 (w.heap.size + 1 + 1) := by
  have := Box.new ((w.alloc c0).alloc c)
  simp only [World.size_alloc] at this
  exact this.fr hf (fun h => by have := hF _ h; omega)

end Go.Proofs.Qxb6500450aGreat
