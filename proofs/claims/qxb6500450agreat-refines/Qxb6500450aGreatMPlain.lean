/- The model's list of documents, as plain mathematics. -/
import Derived.Test.Qxb6500450aGreatIShow
namespace Go.Proofs.Qxb6500450aGreat
open Go Go.RowKit
set_option maxRecDepth 100000
set_option maxHeartbeats 800000
set_option linter.unusedSimpArgs false
set_option linter.unusedVariables false

/-- A document of the list: id, group, text. -/
abbrev D3 := Int × Int × ByteArray
def d3 (f : DocF) (i : Int) : Option D3 := (f i).map fun d => (i, d.1, d.2)
def part (f : DocF) (l : List Int) : List D3 := l.filterMap (d3 f)
def lst (f : DocF) : List D3 := part f nine
def loN (id : Int) : List Int := nine.filter (· < id)
def hiN (id : Int) : List Int := nine.filter (id < ·)

theorem nine_cut {id : Int} (h1 : 1 ≤ id) (h2 : id ≤ 9) : nine = loN id ++ id :: hiN id := by
  have : id = 1 ∨ id = 2 ∨ id = 3 ∨ id = 4 ∨ id = 5 ∨ id = 6 ∨ id = 7 ∨ id = 8 ∨ id = 9 := by omega
  rcases this with rfl | rfl | rfl | rfl | rfl | rfl | rfl | rfl | rfl <;> decide

theorem part_append (f : DocF) (l m : List Int) : part f (l ++ m) = part f l ++ part f m := by simp [part]
theorem part_cons_none {f : DocF} {i : Int} (h : f i = none) (l : List Int) : part f (i :: l) = part f l := by simp [part, d3, h]
theorem part_cons_some {f : DocF} {i : Int} {d : Int × ByteArray} (h : f i = some d) (l : List Int) : part f (i :: l) = (i, d.1, d.2) :: part f l := by simp [part, d3, h]
theorem part_congr {f f' : DocF} {l : List Int} (h : ∀ i ∈ l, f i = f' i) : part f l = part f' l := by
  unfold part
  induction l with
  | nil => rfl
  | cons a l ih =>
    rw [List.filterMap_cons, List.filterMap_cons, ih (fun i hi => h i (by simp [hi]))]
    have : d3 f a = d3 f' a := by unfold d3; rw [h a (by simp)]
    rw [this]

theorem lst_none {f : DocF} {id : Int} (h1 : 1 ≤ id) (h2 : id ≤ 9) (h : f id = none) : lst f = part f (loN id) ++ part f (hiN id) := by
  unfold lst; rw [nine_cut h1 h2, part_append, part_cons_none h]
theorem lst_some {f : DocF} {id : Int} {d : Int × ByteArray} (h1 : 1 ≤ id) (h2 : id ≤ 9) (h : f id = some d) : lst f = part f (loN id) ++ (id, d.1, d.2) :: part f (hiN id) := by
  unfold lst; rw [nine_cut h1 h2, part_append, part_cons_some h]
theorem lst_put {f : DocF} {id : Int} (h1 : 1 ≤ id) (h2 : id ≤ 9) (g : Int) (t : ByteArray) : lst (putD f id g t) = part f (loN id) ++ (id, g, t) :: part f (hiN id) := by
  rw [lst_some (d := (g, t)) h1 h2 (by simp [putD])]
  rw [part_congr (f := putD f id g t) (f' := f) (l := loN id) (fun i hi => by unfold putD; rw [if_neg]; have := (List.mem_filter.1 hi).2; simp at this; omega)]
  rw [part_congr (f := putD f id g t) (f' := f) (l := hiN id) (fun i hi => by unfold putD; rw [if_neg]; have := (List.mem_filter.1 hi).2; simp at this; omega)]
theorem lst_del {f : DocF} {id : Int} (h1 : 1 ≤ id) (h2 : id ≤ 9) : lst (delD f id) = part f (loN id) ++ part f (hiN id) := by
  rw [lst_none h1 h2 (by simp [delD])]
  rw [part_congr (f := delD f id) (f' := f) (l := loN id) (fun i hi => by unfold delD; rw [if_neg]; have := (List.mem_filter.1 hi).2; simp at this; omega)]
  rw [part_congr (f := delD f id) (f' := f) (l := hiN id) (fun i hi => by unfold delD; rw [if_neg]; have := (List.mem_filter.1 hi).2; simp at this; omega)]

theorem lst_len (f : DocF) : (lst f).length = nDocs f := by
  unfold lst part nDocs
  rw [List.length_filterMap_eq_countP]
  congr 1
  funext i
  simp [d3]

theorem part_ids (f : DocF) (l : List Int) : (part f l).map (·.1) = l.filter fun i => (f i).isSome := by
  unfold part
  induction l with
  | nil => rfl
  | cons a l ih =>
    rw [List.filterMap_cons, List.filter_cons]
    obtain e | ⟨d, e⟩ := opt (f a)
    · simp [d3, e, ih]
    · simp [d3, e, ih]
theorem lst_ids (f : DocF) : (lst f).map (·.1) = ids f := part_ids f nine

theorem part_mem {f : DocF} {l : List Int} {x : D3} (h : x ∈ part f l) : x.1 ∈ l ∧ f x.1 = some (x.2.1, x.2.2) := by
  unfold part at h
  obtain ⟨i, hi, hx⟩ := List.mem_filterMap.1 h
  unfold d3 at hx
  obtain e | ⟨d, e⟩ := opt (f i)
  · rw [e] at hx; cases hx
  · rw [e] at hx
    simp at hx
    subst hx
    exact ⟨hi, e⟩

theorem lst_no : lst noD = [] := by simp [lst, part, d3, noD, nine]

theorem lst_drop (f : DocF) (g : Int) : lst (dropD f g) = (lst f).filter fun x => x.2.1 != g := by
  unfold lst part
  generalize nine = l
  induction l with
  | nil => rfl
  | cons a l ih =>
    rw [List.filterMap_cons, List.filterMap_cons]
    obtain e | ⟨d, e⟩ := opt (f a)
    · simp [d3, dropD, has, e, ih]
    · by_cases hd : d.1 = g
      · simp [d3, dropD, has, e, hd, ih]
      · simp [d3, dropD, has, e, hd, ih]

theorem lst_cnt (f : DocF) (g : Int) : cnt f g = (lst f).countP fun x => x.2.1 == g := by
  unfold lst part cnt
  generalize nine = l
  induction l with
  | nil => rfl
  | cons a l ih =>
    rw [List.countP_cons, List.filterMap_cons]
    obtain e | ⟨d, e⟩ := opt (f a)
    · simp [d3, has, e, ih]
    · rw [show d3 f a = some (a, d.1, d.2) by simp [d3, e]]
      simp only [List.countP_cons, ih]
      simp [has, e]

end Go.Proofs.Qxb6500450aGreat
