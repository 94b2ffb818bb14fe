/- The index: DropGroup. -/
import Derived.Test.Qxb6500450aGreatIWords
namespace Go.Proofs.Qxb6500450aGreat
open Go Go.RowKit
set_option maxRecDepth 100000
set_option maxHeartbeats 8000000
set_option linter.unusedSimpArgs false
set_option linter.unusedVariables false

theorem hwD_drop (f : DocF) (g : Int) (y : ByteArray) (i : Int) : hwD (dropD f g) y i = (hwD f y i && (dropD f g i).isSome) := by
  unfold hwD dropD
  by_cases h : has f g i = true
  · simp [h]
  · simp only [h, Bool.false_eq_true, if_false]
    obtain e | ⟨d, e⟩ := opt (f i)
    · simp [e]
    · simp [e]
theorem tlK_drop (f : DocF) (g : Int) (k : Int × ByteArray) : tlK (dropD f g) k = if k.1 = g then 0 else tlK f k := by
  unfold tlK
  by_cases h : k.1 = g
  · rw [if_pos h, List.countP_eq_zero]
    intro i _
    have : has (dropD f g) k.1 i = false := by
      rw [h]
      unfold has dropD
      by_cases c : has f g i = true
      · simp [c]
      · simp only [c, Bool.false_eq_true, if_false]
        simpa [has] using c
    simp [this]
  · rw [if_neg h]
    apply List.countP_congr
    intro i _
    rw [hwD_drop]
    have e : has (dropD f g) k.1 i = has f k.1 i := by
      unfold has dropD
      by_cases c : has f g i = true
      · simp only [c, if_true]
        obtain e | ⟨d, e⟩ := opt (f i)
        · simp [e]
        · simp [has, e] at c
          simp [e, c]
          exact fun c' => h c'.symm
      · simp only [c, Bool.false_eq_true, if_false]
    rw [e]
    by_cases c : has f k.1 i = true
    · have : (dropD f g i).isSome = true := by
        rw [← e] at c
        unfold has at c
        obtain e2 | ⟨d, e2⟩ := opt (dropD f g i)
        · rw [e2] at c; simp at c
        · rw [e2]; rfl
      simp [c, this]
    · simp [c]
theorem drop_zero {f : DocF} (ok : OkF f) {g : Int} (h : cnt f g = 0) : dropD f g = f := by
  funext i
  unfold dropD
  by_cases c : has f g i = true
  · exfalso
    unfold cnt at h
    rw [List.countP_eq_zero] at h
    obtain e | ⟨d, e⟩ := opt (f i)
    · simp [has, e] at c
    · have := ok.rng i d e
      exact h i (mem_nine this.1 this.2.1) c
  · rw [if_neg c]
/-- How many entries a set has. -/
theorem MapF.cntS {w : World} {b n : Nat} {d : Int → Bool} (h : MapF ik w b (sm d) n) (hs : ∀ i, d i = true → 1 ≤ i ∧ i ≤ 9) : n = nine.countP d := by
  obtain ⟨l, c, h1, h2, h3, h4⟩ := h
  have hm : ∀ k, k ∈ l.map (·.key) ↔ k ∈ nine.filter d := by
    intro k
    rw [List.mem_filter]
    constructor
    · intro hk
      obtain ⟨x, hx, rfl⟩ := List.mem_map.1 hk
      have := look_of_mem h2.keys hx
      rw [h3] at this
      unfold sm at this
      by_cases c : d x.key = true
      · exact ⟨mem_nine (hs _ c).1 (hs _ c).2, c⟩
      · rw [if_neg c] at this; cases this
    · rintro ⟨_, hk⟩
      have : look l k = some (.bool true) := by rw [h3]; unfold sm; rw [if_pos hk]
      obtain ⟨x, hx, rfl, _⟩ := look_mem this
      exact List.mem_map_of_mem hx
  have e : l.length = (l.map (·.key)).length := by simp
  rw [← h4, List.countP_eq_length_filter, e]
  exact Nat.le_antisymm (nodup_len h2.keys (fun x hx => (hm x).1 hx)) (nodup_len (nine_nodup.filter _) (fun x hx => (hm x).2 hx))

section
variable (f : DocF) (g : Int)
def Dm (left : List ByteArray) : PostF := fun y i => if y ∈ left then hwD f y i else hwD (dropD f g) y i
def dcur (k : ByteArray) (li : List Int) : Int → Bool := fun i => if i ∈ li then hwD f k i else hwD (dropD f g) k i
def Tl (left : List (Int × ByteArray)) : TalF := fun k => if k ∈ left then tlK f k else tlK (dropD f g) k
end
theorem Dm_nil (f : DocF) (g : Int) : Dm f g [] = hwD (dropD f g) := by funext y i; simp [Dm]
theorem Tl_nil (f : DocF) (g : Int) : Tl f g [] = tlK (dropD f g) := by funext k; simp [Tl]
theorem Dm_start {f : DocF} {g : Int} {left : List ByteArray} (h : ∀ y, y ∈ left ↔ fq (hwD f) y ≠ 0) (hs : ∀ y i, hwD f y i = true → 1 ≤ i ∧ i ≤ 9) : Dm f g left = hwD f := by
  funext y i
  unfold Dm
  by_cases c : y ∈ left
  · rw [if_pos c]
  · rw [if_neg c, hwD_drop]
    have hz : fq (hwD f) y = 0 := Classical.not_not.1 (fun h0 => c ((h y).2 h0))
    rcases hd : hwD f y i with _ | _
    · rfl
    · exfalso
      unfold fq at hz
      rw [List.countP_eq_zero] at hz
      have := hs y i hd
      exact hz i (mem_nine this.1 this.2) hd
theorem Tl_start {f : DocF} {g : Int} {left : List (Int × ByteArray)} (h : ∀ k, k ∈ left ↔ tlK f k ≠ 0) : Tl f g left = tlK f := by
  funext k
  unfold Tl
  by_cases c : k ∈ left
  · rw [if_pos c]
  · rw [if_neg c, tlK_drop]
    have hz : tlK f k = 0 := Classical.not_not.1 (fun h0 => c ((h k).2 h0))
    rw [hz]
    split <;> rfl
theorem dcur_nil (f : DocF) (g : Int) (k : ByteArray) : dcur f g k [] = hwD (dropD f g) k := by funext i; simp [dcur]
theorem dcur_start {f : DocF} {g : Int} {k : ByteArray} {li : List Int} (h : ∀ i, i ∈ li ↔ hwD f k i = true) : dcur f g k li = hwD f k := by
  funext i
  unfold dcur
  by_cases c : i ∈ li
  · rw [if_pos c]
  · rw [if_neg c, hwD_drop]
    rcases hd : hwD f k i with _ | _
    · rfl
    · exact absurd ((h i).2 hd) c
theorem dcur_keep {f : DocF} {g : Int} {k : ByteArray} {li : List Int} {id : Int} (hs : (dropD f g id).isSome = true) : dcur f g k (li.filter (· ≠ id)) = dcur f g k li := by
  funext i
  unfold dcur
  by_cases e : i = id
  · subst e
    rw [if_neg (by simp), hwD_drop, hs]
    simp
  · simp [e]
theorem dcur_del {f : DocF} {g : Int} {k : ByteArray} {li : List Int} {id : Int} (hn : dropD f g id = none) : updF (sm (dcur f g k li)) id none = sm (dcur f g k (li.filter (· ≠ id))) := by
  funext i
  unfold updF sm dcur
  by_cases e : i = id
  · subst e
    rw [if_pos rfl]
    have : hwD (dropD f g) k i = false := hwD_none hn k
    simp [this]
  · simp [e]
theorem dcur_cnt {f : DocF} {g : Int} {k : ByteArray} {li : List Int} {id : Int} (h1 : 1 ≤ id) (h2 : id ≤ 9) (hn : dropD f g id = none) (hi : id ∈ li) (hd : hwD f k id = true) : nine.countP (dcur f g k (li.filter (· ≠ id))) + 1 = nine.countP (dcur f g k li) := by
  rw [countP_split nine_nodup (mem_nine h1 h2) (p := dcur f g k (li.filter (· ≠ id))), countP_split nine_nodup (mem_nine h1 h2) (p := dcur f g k li)]
  rw [off_congr (p := dcur f g k (li.filter (· ≠ id))) (q := dcur f g k li) (fun i hne => by unfold dcur; simp [hne])]
  have e1 : dcur f g k (li.filter (· ≠ id)) id = false := by
    unfold dcur
    rw [if_neg (by simp)]
    exact hwD_none hn k
  have e2 : dcur f g k li id = true := by unfold dcur; rw [if_pos hi]; exact hd
  rw [e1, e2]
  simp
theorem Dm_other {f : DocF} {g : Int} {left : List ByteArray} {k y : ByteArray} (h : y ≠ k) : Dm f g (left.filter (· ≠ k)) y = Dm f g left y := by
  funext i; unfold Dm; simp [h]
theorem Dm_same (f : DocF) (g : Int) (left : List ByteArray) (k : ByteArray) : Dm f g (left.filter (· ≠ k)) k = hwD (dropD f g) k := by
  funext i; unfold Dm; simp
theorem im_step {f : DocF} {g : Int} {q : ByteArray → Nat} {left : List ByteArray} {k : ByteArray} : im q (Dm f g (left.filter (· ≠ k))) = updF (im q (Dm f g left)) k (if fq (hwD (dropD f g)) k = 0 then none else some (.agg #[.map (some (q k)), .int .i64 (fq (hwD (dropD f g)) k : Int)])) := by
  funext y
  unfold updF im
  by_cases h : y = k
  · subst h
    have e : fq (Dm f g (left.filter (· ≠ y))) y = fq (hwD (dropD f g)) y := by unfold fq; rw [Dm_same]
    rw [if_pos rfl, e]
  · have e : fq (Dm f g (left.filter (· ≠ k))) y = fq (Dm f g left) y := by unfold fq; rw [Dm_other h]
    rw [if_neg h, e]
theorem Tl_step {f : DocF} {g : Int} {left : List (Int × ByteArray)} {k : Int × ByteArray} (h : k.1 = g) : updF (cmK (Tl f g left)) k none = cmK (Tl f g (left.filter (· ≠ k))) := by
  funext j
  unfold updF cmK Tl
  by_cases e : j = k
  · subst e
    rw [if_pos rfl]
    have : tlK (dropD f g) j = 0 := by rw [tlK_drop, if_pos h]
    simp [this]
  · simp [e]
theorem Tl_keep {f : DocF} {g : Int} {left : List (Int × ByteArray)} {k : Int × ByteArray} (h : k.1 ≠ g) : Tl f g (left.filter (· ≠ k)) = Tl f g left := by
  funext j
  unfold Tl
  by_cases e : j = k
  · subst e
    have : tlK (dropD f g) j = tlK f j := by rw [tlK_drop, if_neg h]
    simp [this]
  · simp [e]

end Go.Proofs.Qxb6500450aGreat
