/- The store as plain mathematics. -/
import Derived.Test.Qxb6500450aGreatOps
import Derived.Test.Qxb6500450aGreatInts
namespace Go.Proofs.Qxb6500450aGreat
open Go Go.RowKit
set_option linter.unusedSimpArgs false
set_option linter.unusedVariables false

/-- The documents by id: group and text. -/
abbrev DocF := Int → Option (Int × ByteArray)
def nine : List Int := [1, 2, 3, 4, 5, 6, 7, 8, 9]
def has (f : DocF) (g i : Int) : Bool := (f i).any fun d => d.1 == g
theorem opt {α : Type} (o : Option α) : o = none ∨ ∃ d, o = some d := by cases o <;> simp
def cnt (f : DocF) (g : Int) : Nat := nine.countP (has f g)
def ids (f : DocF) : List Int := nine.filter fun i => (f i).isSome
def nDocs (f : DocF) : Nat := nine.countP fun i => (f i).isSome
def putD (f : DocF) (id g : Int) (t : ByteArray) : DocF := fun i => if i = id then some (g, t) else f i
def delD (f : DocF) (id : Int) : DocF := fun i => if i = id then none else f i
def dropD (f : DocF) (g : Int) : DocF := fun i => if has f g i then none else f i
def noD : DocF := fun _ => none
def incC (c : Int → Nat) (k : Int) : Int → Nat := fun j => if j = k then c j + 1 else c j
def decC (c : Int → Nat) (k : Int) : Int → Nat := fun j => if j = k then c j - 1 else c j

structure OkF (f : DocF) : Prop where
  rng : ∀ i d, f i = some d → 1 ≤ i ∧ i ≤ 9 ∧ 0 ≤ d.1 ∧ d.1 ≤ 2 ∧ d.2.size ≤ 12
  few : nDocs f ≤ 6

theorem ids_len (f : DocF) : (ids f).length = nDocs f := by unfold ids nDocs; rw [List.countP_eq_length_filter]

theorem mem_nine {i : Int} (h1 : 1 ≤ i) (h2 : i ≤ 9) : i ∈ nine := by
  have : i = 1 ∨ i = 2 ∨ i = 3 ∨ i = 4 ∨ i = 5 ∨ i = 6 ∨ i = 7 ∨ i = 8 ∨ i = 9 := by omega
  rcases this with rfl | rfl | rfl | rfl | rfl | rfl | rfl | rfl | rfl <;> decide

theorem nine_mem {i : Int} (h : i ∈ nine) : 1 ≤ i ∧ i ≤ 9 := by
  simp [nine] at h; omega

theorem countP_split {p : Int → Bool} {x : Int} : ∀ {l : List Int}, l.Nodup → x ∈ l → l.countP p = (l.filter (· ≠ x)).countP p + (p x).toNat
  | [], _, h => by simp at h
  | a :: l, hn, h => by
    obtain ⟨hn1, hn2⟩ := List.nodup_cons.1 hn
    by_cases hx : a = x
    · subst hx
      have e : l.filter (· ≠ a) = l := List.filter_eq_self.2 (fun y hy => by simp; rintro rfl; exact hn1 hy)
      rw [List.filter_cons_of_neg (by simp), e, List.countP_cons]
      cases p a <;> simp
    · have hm : x ∈ l := by
        rcases List.mem_cons.1 h with h' | h'
        · exact absurd h'.symm hx
        · exact h'
      rw [List.filter_cons_of_pos (by simpa using hx), List.countP_cons, List.countP_cons, countP_split hn2 hm]
      omega

theorem nine_nodup : nine.Nodup := by decide

/-- What lies off id. -/
theorem cnt_split (f : DocF) (g : Int) {id : Int} (h1 : 1 ≤ id) (h2 : id ≤ 9) : cnt f g = (nine.filter (· ≠ id)).countP (has f g) + (has f g id).toNat := countP_split nine_nodup (mem_nine h1 h2)
theorem nDocs_split (f : DocF) {id : Int} (h1 : 1 ≤ id) (h2 : id ≤ 9) : nDocs f = (nine.filter (· ≠ id)).countP (fun i => (f i).isSome) + ((f id).isSome).toNat := countP_split nine_nodup (mem_nine h1 h2)

theorem off_congr {id : Int} {p q : Int → Bool} (h : ∀ i, i ≠ id → p i = q i) : (nine.filter (· ≠ id)).countP p = (nine.filter (· ≠ id)).countP q := by
  apply List.countP_congr
  intro i hi
  have := (List.mem_filter.1 hi).2
  rw [h i (by simpa using this)]

theorem cnt_put (f : DocF) {id : Int} (h1 : 1 ≤ id) (h2 : id ≤ 9) (g : Int) (t : ByteArray) (j : Int) : cnt (putD f id g t) j + (has f j id).toNat = cnt f j + (if j = g then 1 else 0) := by
  rw [cnt_split _ _ h1 h2, cnt_split f _ h1 h2, off_congr (p := has (putD f id g t) j) (q := has f j) (id := id) (fun i hi => by simp [has, putD, hi])]
  have : (has (putD f id g t) j id).toNat = if j = g then 1 else 0 := by
    simp only [has, putD, if_true, Option.any_some]
    by_cases h : j = g
    · subst h; simp
    · have : (g == j) = false := by simp; exact fun e => h e.symm
      rw [this]; simp [h]
  rw [this]; omega

theorem cnt_del (f : DocF) {id : Int} (h1 : 1 ≤ id) (h2 : id ≤ 9) (j : Int) : cnt (delD f id) j + (has f j id).toNat = cnt f j := by
  rw [cnt_split _ _ h1 h2, cnt_split f _ h1 h2, off_congr (p := has (delD f id) j) (q := has f j) (id := id) (fun i hi => by simp [has, delD, hi])]
  have : (has (delD f id) j id) = false := by simp [has, delD]
  rw [this]; simp

theorem nDocs_put (f : DocF) {id : Int} (h1 : 1 ≤ id) (h2 : id ≤ 9) (g : Int) (t : ByteArray) : nDocs (putD f id g t) + ((f id).isSome).toNat = nDocs f + 1 := by
  rw [nDocs_split _ h1 h2, nDocs_split f h1 h2, off_congr (p := fun i => (putD f id g t i).isSome) (q := fun i => (f i).isSome) (id := id) (fun i hi => by simp [putD, hi])]
  simp [putD]; omega

theorem nDocs_del (f : DocF) {id : Int} (h1 : 1 ≤ id) (h2 : id ≤ 9) : nDocs (delD f id) + ((f id).isSome).toNat = nDocs f := by
  rw [nDocs_split _ h1 h2, nDocs_split f h1 h2, off_congr (p := fun i => (delD f id i).isSome) (q := fun i => (f i).isSome) (id := id) (fun i hi => by simp [delD, hi])]
  simp [delD]

theorem cnt_drop (f : DocF) (g j : Int) : cnt (dropD f g) j = if j = g then 0 else cnt f j := by
  unfold cnt
  by_cases h : j = g
  · subst h
    rw [if_pos rfl, List.countP_eq_zero]
    intro i _
    obtain hf | ⟨d, hf⟩ := opt (f i)
    · simp [has, dropD, hf]
    · by_cases hd : d.1 = j
      · simp [has, dropD, hf, hd]
      · simp [has, dropD, hf, hd]
  · rw [if_neg h]
    apply List.countP_congr
    intro i _
    obtain hf | ⟨d, hf⟩ := opt (f i)
    · simp [has, dropD, hf]
    · by_cases hd : d.1 = g
      · simp [has, dropD, hf, hd]; exact fun e => h e.symm
      · simp [has, dropD, hf, hd]

theorem countP_sub {p q r : Int → Bool} : ∀ l : List Int, (∀ i ∈ l, (p i).toNat = (q i).toNat + (r i).toNat) → l.countP p = l.countP q + l.countP r
  | [], _ => rfl
  | a :: l, h => by
    have h1 := h a (by simp)
    have h2 := countP_sub l (fun i hi => h i (by simp [hi]))
    rw [List.countP_cons, List.countP_cons, List.countP_cons, h2]
    rcases hp : p a <;> rcases hq : q a <;> rcases hr : r a <;> rw [hp, hq, hr] at h1 <;> simp at h1 ⊢ <;> omega

theorem nDocs_drop (f : DocF) (g : Int) : nDocs f = nDocs (dropD f g) + cnt f g := by
  unfold nDocs cnt
  apply countP_sub
  intro i _
  obtain hf | ⟨d, hf⟩ := opt (f i)
  · simp [has, dropD, hf]
  · by_cases hd : d.1 = g
    · simp [has, dropD, hf, hd]
    · simp [has, dropD, hf, hd]

theorem cnt_le (f : DocF) (g : Int) : cnt f g ≤ nDocs f := by rw [nDocs_drop f g]; omega
theorem nDocs_le (f : DocF) : nDocs f ≤ 9 := List.countP_le_length
theorem cnt_no (g : Int) : cnt noD g = 0 := by unfold cnt; rw [List.countP_eq_zero]; intro i _; simp [has, noD]
theorem nDocs_no : nDocs noD = 0 := by unfold nDocs; rw [List.countP_eq_zero]; intro i _; simp [noD]

theorem OkF.no : OkF noD := ⟨fun i d h => by simp [noD] at h, by rw [nDocs_no]; omega⟩
theorem OkF.put {f : DocF} (h : OkF f) {id g : Int} {t : ByteArray} (h1 : 1 ≤ id) (h2 : id ≤ 9) (g1 : 0 ≤ g) (g2 : g ≤ 2) (ht : t.size ≤ 12) (hn : (f id).isSome = true ∨ nDocs f < 6) : OkF (putD f id g t) := by
  refine ⟨fun i d hd => ?_, ?_⟩
  · unfold putD at hd
    split at hd
    · rename_i e
      subst e
      cases hd
      exact ⟨h1, h2, g1, g2, ht⟩
    · exact h.rng i d hd
  · have hp := nDocs_put f h1 h2 g t
    have := h.few
    rcases hn with hn | hn
    · rw [hn] at hp
      simp at hp; omega
    · omega
theorem OkF.sub {f f' : DocF} (h : OkF f) (hs : ∀ i, f' i = none ∨ f' i = f i) : OkF f' := by
  refine ⟨fun i d hd => h.rng i d ?_, Nat.le_trans (List.countP_mono_left fun i _ hi => ?_) h.few⟩
  · rcases hs i with h' | h'
    · rw [h'] at hd; cases hd
    · rw [← h']; exact hd
  · rcases hs i with h' | h'
    · rw [h'] at hi; cases hi
    · rw [← h']; exact hi
theorem OkF.del {f : DocF} (h : OkF f) (id : Int) : OkF (delD f id) := h.sub (fun i => by unfold delD; split <;> simp)
theorem OkF.drop {f : DocF} (h : OkF f) (g : Int) : OkF (dropD f g) := h.sub (fun i => by unfold dropD; split <;> simp)

theorem has_of {f : DocF} {id g : Int} {t : ByteArray} (h : f id = some (g, t)) (j : Int) : has f j id = decide (j = g) := by
  simp only [has, h]
  by_cases e : j = g
  · subst e; simp
  · simp [e]; exact fun e' => e e'.symm
theorem has_none {f : DocF} {id : Int} (h : f id = none) (j : Int) : has f j id = false := by simp [has, h]

theorem cnt_pos {f : DocF} (hf : OkF f) {id g : Int} {t : ByteArray} (h : f id = some (g, t)) : 1 ≤ cnt f g := by
  obtain ⟨h1, h2, _⟩ := hf.rng _ _ h
  have := cnt_del f h1 h2 g
  rw [has_of h g] at this
  simp at this; omega

theorem cnt_del_eq {f : DocF} (hf : OkF f) {id g : Int} {t : ByteArray} (h : f id = some (g, t)) : cnt (delD f id) = decC (cnt f) g := by
  obtain ⟨h1, h2, _⟩ := hf.rng _ _ h
  funext j
  have := cnt_del f h1 h2 j
  rw [has_of h j] at this
  unfold decC
  by_cases e : j = g
  · subst e; simp at this ⊢; omega
  · simp [e] at this ⊢; omega

theorem cnt_put_new {f : DocF} {id : Int} (h1 : 1 ≤ id) (h2 : id ≤ 9) (h : f id = none) (g : Int) (t : ByteArray) : cnt (putD f id g t) = incC (cnt f) g := by
  funext j
  have := cnt_put f h1 h2 g t j
  rw [has_none h] at this
  unfold incC
  by_cases e : j = g <;> simp [e] at this ⊢ <;> omega

theorem cnt_put_old {f : DocF} (hf : OkF f) {id g0 : Int} {t0 : ByteArray} (h : f id = some (g0, t0)) (g : Int) (t : ByteArray) : cnt (putD f id g t) = incC (decC (cnt f) g0) g := by
  obtain ⟨h1, h2, _⟩ := hf.rng _ _ h
  have hp := cnt_pos hf h
  funext j
  have := cnt_put f h1 h2 g t j
  rw [has_of h j] at this
  unfold incC decC
  by_cases e : j = g
  · by_cases e0 : j = g0
    · subst e; subst e0; simp at this ⊢; omega
    · subst e; simp [e0] at this ⊢; omega
  · by_cases e0 : j = g0
    · subst e0; simp [e] at this ⊢; omega
    · simp [e, e0] at this ⊢; omega

/-- A map of counters. -/
def cm (c : Int → Nat) (k : Int) : Option Value := if c k = 0 then none else some (.int .i64 (c k : Int))

theorem cm_get (c : Int → Nat) (k : Int) : (cm c k).getD (.int .i64 0) = .int .i64 (c k : Int) := by
  unfold cm
  split
  · rename_i h; rw [h]; rfl
  · rfl

theorem cm_inc (c : Int → Nat) (k : Int) : updF (cm c) k (some (.int .i64 ((c k : Int) + 1))) = cm (incC c k) := by
  funext j
  unfold updF cm incC
  by_cases h : j = k
  · subst h; simp
  · simp [h]

theorem cm_dec (c : Int → Nat) (k : Int) (h : 2 ≤ c k) : updF (cm c) k (some (.int .i64 ((c k : Int) - 1))) = cm (decC c k) := by
  funext j
  unfold updF cm decC
  by_cases h' : j = k
  · subst h'
    have e1 : ¬ c j - 1 = 0 := by omega
    simp [e1]; omega
  · simp [h']

theorem cm_dec1 (c : Int → Nat) (k : Int) (v : Option Value) (h : c k = 1) : updF (updF (cm c) k v) k none = cm (decC c k) := by
  funext j
  unfold updF cm decC
  by_cases h' : j = k
  · subst h'
    simp [h]
  · simp [h']

end Go.Proofs.Qxb6500450aGreat
