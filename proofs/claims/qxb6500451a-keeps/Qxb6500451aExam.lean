/- The closed law 'Examples': its walk. -/
import Derived.Test.Qxb6500451aCheck
namespace Go.Proofs.Qxb6500451a
open Go Go.RowKit
set_option maxRecDepth 100000
set_option maxHeartbeats 1600000
set_option linter.unusedSimpArgs false
set_option linter.unusedVariables false

def abc : ByteArray := ⟨#[97, 98, 32, 99]⟩
def exF : DocF := putD noD 3 1 abc
def exR : Int → Nat := incC (fun _ => 0) 3

theorem ex_s0 : bs (showL noD (fun _ => 0)) = ⟨#[124, 48, 32, 48, 32, 48, 32, 48, 32, 48, 32, 48, 32, 48, 32, 48, 32, 48, 32, 124, 48, 32, 48, 32, 48, 32]⟩ := by kernel_rfl
theorem ex_e1 : putE noD 3 1 abc = 0 := by
  have h1 : textOK abc = true := by kernel_rfl
  have h2 : nDocs noD = 0 := nDocs_no
  have h3 : goodB 3 = true := by decide
  have h4 : abc.size = 4 := rfl
  unfold putE
  rw [h1, h2, h3, h4]
  simp
theorem ex_f1 : putF noD 3 1 abc = exF := by unfold putF; rw [ex_e1]; rfl
theorem ex_r1 : putR noD (fun _ => 0) 3 1 abc = exR := by unfold putR; rw [ex_e1]; rfl
theorem ex_s1 : bs (showL exF exR) = ⟨#[51, 47, 49, 47, 97, 98, 32, 99, 59, 124, 48, 32, 48, 32, 49, 32, 48, 32, 48, 32, 48, 32, 48, 32, 48, 32, 48, 32, 124, 48, 32, 49, 32, 48, 32]⟩ := by kernel_rfl
theorem exR_small : ∀ k, exR k < 4611686018427387904 := fun k => by unfold exR incC; split <;> simp only [] <;> omega

theorem ex_bad (t : ByteArray) (h : textOK t = false) (hs : t.size ≤ 12) : putE exF 1 0 t = 4 := by
  have h3 : goodB 1 = true := by decide
  unfold putE
  rw [h, h3]
  simp
  omega

theorem ex_same {f : DocF} {r : Int → Nat} {id g : Int} {t : ByteArray} (h : putE f id g t = 4) : putF f id g t = f ∧ putR f r id g t = r := by
  unfold putF putR; rw [h]; exact ⟨rfl, rfl⟩

theorem examples_any (w : World) : Calls Try.prog 7 #[] w fun e w' => e = .returned (.bool true) ∧ Fr (fun _ => False) w w' := by
  go_enter Try.func7, Try.ntmps7
  go_wp2_with fail
  refine (new_any _).mono ?_
  rintro e w1 ⟨rfl, hr, f1⟩
  have HR := hid hr
  have HW := hid f1
  have HZ : Hid (∀ i, w.heap.size ≤ i → w.heap.size ≤ i) := fun _ h => h
  clear hr f1
  generalize w.heap.size + 3 = bS at *
  go_wp2_with fail
  refine (show_any HR.out (fun _ => by omega)).mono ?_
  rintro e w2 ⟨rfl, f2⟩
  rw [ex_s0]
  replace HR := hid (HR.out.frw f2 (fun _ _ h => h))
  replace HW := hid (HW.out.trans f2)
  clear f2
  go_wp2_with fail
  have hp := put_any HR.out 3 1 abc (fun _ => by omega)
  simp only [abc] at hp
  refine hp.mono ?_
  clear hp
  rintro e w3 ⟨rfl, hr3, f3⟩
  change SR w3 _ bS (putF noD 3 1 abc) (putR noD (fun _ => 0) 3 1 abc) at hr3
  have e0 : putE noD 3 1 ⟨#[97, 98, 32, 99]⟩ = 0 := ex_e1
  rw [ex_f1, ex_r1] at hr3
  rw [e0]
  replace HR := hid (hr3.wide (G := fun i => w.heap.size ≤ i) (fun i h => by have := HW.out.size; omega))
  replace HW := hid (HW.out.then f3 (fun i hi h => by omega))
  clear hr3 f3 e0
  go_wp2_with fail
  refine (show_any HR.out exR_small).mono ?_
  rintro e w4 ⟨rfl, f4⟩
  rw [ex_s1]
  replace HR := hid (HR.out.frw f4 (fun _ _ h => h))
  replace HW := hid (HW.out.trans f4)
  clear f4
  go_wp2_with fail
  have e0 : putE exF 1 0 ⟨#[97, 122, 32, 90]⟩ = 4 := ex_bad _ (by kernel_rfl) (by decide)
  refine (put_any HR.out 1 0 ⟨#[97, 122, 32, 90]⟩ exR_small).mono ?_
  rintro e x0 ⟨rfl, hr, f⟩
  rw [(ex_same (r := exR) e0).1, (ex_same (r := exR) e0).2] at hr
  rw [e0]
  replace HR := hid (hr.wide (G := fun i => w.heap.size ≤ i) (fun i h => by have := HW.out.size; omega))
  replace HW := hid (HW.out.then f (fun i hi h => by omega))
  clear hr f e0
  go_wp2_with fail
  have e1 : putE exF 1 0 ⟨#[97, 123]⟩ = 4 := ex_bad _ (by kernel_rfl) (by decide)
  refine (put_any HR.out 1 0 ⟨#[97, 123]⟩ exR_small).mono ?_
  rintro e x1 ⟨rfl, hr, f⟩
  rw [(ex_same (r := exR) e1).1, (ex_same (r := exR) e1).2] at hr
  rw [e1]
  replace HR := hid (hr.wide (G := fun i => w.heap.size ≤ i) (fun i h => by have := HW.out.size; omega))
  replace HW := hid (HW.out.then f (fun i hi h => by omega))
  clear hr f e1
  go_wp2_with fail
  have e2 : putE exF 1 0 ⟨#[97, 96]⟩ = 4 := ex_bad _ (by kernel_rfl) (by decide)
  refine (put_any HR.out 1 0 ⟨#[97, 96]⟩ exR_small).mono ?_
  rintro e x2 ⟨rfl, hr, f⟩
  rw [(ex_same (r := exR) e2).1, (ex_same (r := exR) e2).2] at hr
  rw [e2]
  replace HR := hid (hr.wide (G := fun i => w.heap.size ≤ i) (fun i h => by have := HW.out.size; omega))
  replace HW := hid (HW.out.then f (fun i hi h => by omega))
  clear hr f e2
  go_wp2_with fail
  go_ret
  exact ⟨rfl, HW.out⟩

end Go.Proofs.Qxb6500451a
