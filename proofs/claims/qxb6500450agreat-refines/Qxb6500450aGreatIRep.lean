/- The index's two maps and their sets; what a word more, a word less leave. -/
import Derived.Test.Qxb6500450aGreatIText
namespace Go.Proofs.Qxb6500450aGreat
open Go Go.RowKit
set_option maxRecDepth 100000
set_option maxHeartbeats 1600000
set_option linter.unusedSimpArgs false
set_option linter.unusedVariables false

abbrev PostF := ByteArray → Int → Bool
abbrev TalF := Int × ByteArray → Nat
def fq (D : PostF) (x : ByteArray) : Nat := nine.countP (D x)
def im (q : ByteArray → Nat) (D : PostF) (x : ByteArray) : Option Value := if fq D x = 0 then none else some (.agg #[.map (some (q x)), .int .i64 (fq D x : Int)])
def cmK (T : TalF) (k : Int × ByteArray) : Option Value := if T k = 0 then none else some (.int .i64 (T k : Int))
def sm (d : Int → Bool) (i : Int) : Option Value := if d i then some (.bool true) else none
def XS (bi bb : Nat) (q : ByteArray → Nat) (D : PostF) (i : Nat) : Prop := i = bi ∨ i = bb ∨ ∃ x, fq D x ≠ 0 ∧ i = q x

structure XI (w : World) (bi bb : Nat) (q : ByteArray → Nat) (D : PostF) (T : TalF) : Prop where
  inv : ∃ n, MapF sk w bi (im q D) n
  tal : ∃ m, MapF kk w bb (cmK T) m
  set : ∀ x, fq D x ≠ 0 → MapF ik w (q x) (sm (D x)) (fq D x)
  inj : ∀ x y, fq D x ≠ 0 → fq D y ≠ 0 → q x = q y → x = y
  nb : bi ≠ bb
  ni : ∀ x, fq D x ≠ 0 → q x ≠ bi ∧ q x ≠ bb
  sup : ∀ x i, D x i = true → 1 ≤ i ∧ i ≤ 9
theorem XI.fr {w w' : World} {bi bb : Nat} {q : ByteArray → Nat} {D : PostF} {T : TalF} (h : XI w bi bb q D T) {S : Nat → Prop} (hf : Fr S w w') (hn : ∀ i, XS bi bb q D i → ¬ S i) : XI w' bi bb q D T := by
  obtain ⟨n, hi⟩ := h.inv
  obtain ⟨m, ht⟩ := h.tal
  exact { h with inv := ⟨n, hi.fr hf (hn _ (.inl rfl))⟩, tal := ⟨m, ht.fr hf (hn _ (.inr (.inl rfl)))⟩, set := fun x hx => (h.set x hx).fr hf (hn _ (.inr (.inr ⟨x, hx, rfl⟩))) }
theorem XI.lt {w : World} {bi bb : Nat} {q : ByteArray → Nat} {D : PostF} {T : TalF} (h : XI w bi bb q D T) : ∀ i, XS bi bb q D i → i < w.heap.size := by
  obtain ⟨n, hi⟩ := h.inv
  obtain ⟨m, ht⟩ := h.tal
  rintro i (rfl | rfl | ⟨x, hx, rfl⟩)
  · exact hi.lt
  · exact ht.lt
  · exact (h.set x hx).lt

/-! ### A word more -/
def addD (D : PostF) (id : Int) (l : List ByteArray) : PostF := fun x i => D x i || (decide (i = id) && decide (x ∈ l))
def addT (T : TalF) (g : Int) (l : List ByteArray) : TalF := fun k => T k + (if k.1 = g ∧ k.2 ∈ l then 1 else 0)
def delP (D : PostF) (id : Int) (l : List ByteArray) : PostF := fun x i => D x i && !(decide (i = id) && decide (x ∈ l))
def delT (T : TalF) (g : Int) (l : List ByteArray) : TalF := fun k => T k - (if k.1 = g ∧ k.2 ∈ l then 1 else 0)
theorem addD_nil (D : PostF) (id : Int) : addD D id [] = D := by funext x i; simp [addD]
theorem addT_nil (T : TalF) (g : Int) : addT T g [] = T := by funext k; simp [addT]
theorem delP_nil (D : PostF) (id : Int) : delP D id [] = D := by funext x i; simp [delP]
theorem delT_nil (T : TalF) (g : Int) : delT T g [] = T := by funext k; simp [delT]
theorem addD_snoc (D : PostF) (id : Int) (l : List ByteArray) (x : ByteArray) : addD D id (l ++ [x]) = addD (addD D id l) id [x] := by
  funext y i
  simp only [addD, List.mem_append, List.mem_singleton]
  by_cases h1 : i = id <;> by_cases h2 : y ∈ l <;> by_cases h3 : y = x <;> simp [h1, h2, h3]
theorem addT_snoc (T : TalF) (g : Int) {l : List ByteArray} {x : ByteArray} (hx : x ∉ l) : addT T g (l ++ [x]) = addT (addT T g l) g [x] := by
  funext k
  simp only [addT, List.mem_append, List.mem_singleton]
  by_cases h1 : k.1 = g
  · by_cases h3 : k.2 = x
    · have h2 : k.2 ∉ l := h3 ▸ hx
      simp [h1, h3, hx]
    · simp [h1, h3]
  · simp [h1]
theorem delP_snoc (D : PostF) (id : Int) (l : List ByteArray) (x : ByteArray) : delP D id (l ++ [x]) = delP (delP D id l) id [x] := by
  funext y i
  simp only [delP, List.mem_append, List.mem_singleton]
  by_cases h1 : i = id <;> by_cases h2 : y ∈ l <;> by_cases h3 : y = x <;> simp [h1, h2, h3]
theorem delT_snoc (T : TalF) (g : Int) {l : List ByteArray} {x : ByteArray} (hx : x ∉ l) : delT T g (l ++ [x]) = delT (delT T g l) g [x] := by
  funext k
  simp only [delT, List.mem_append, List.mem_singleton]
  by_cases h1 : k.1 = g
  · by_cases h3 : k.2 = x
    · have h2 : k.2 ∉ l := h3 ▸ hx
      simp [h1, h3, hx]
    · simp [h1, h3]
  · simp [h1]
theorem fq_other (D D' : PostF) (y : ByteArray) (h : ∀ i, D' y i = D y i) : fq D' y = fq D y := by
  unfold fq; congr 1; funext i; exact h i
theorem fq_add {D : PostF} {id : Int} {x : ByteArray} (h1 : 1 ≤ id) (h2 : id ≤ 9) (hx : D x id = false) : fq (addD D id [x]) x = fq D x + 1 := by
  unfold fq
  rw [countP_split nine_nodup (mem_nine h1 h2) (p := addD D id [x] x), countP_split nine_nodup (mem_nine h1 h2) (p := D x), hx]
  rw [off_congr (p := addD D id [x] x) (q := D x) (fun i hi => by simp [addD, hi])]
  simp [addD]
theorem fq_del {D : PostF} {id : Int} {x : ByteArray} (h1 : 1 ≤ id) (h2 : id ≤ 9) (hx : D x id = true) : fq (delP D id [x]) x + 1 = fq D x := by
  unfold fq
  rw [countP_split nine_nodup (mem_nine h1 h2) (p := delP D id [x] x), countP_split nine_nodup (mem_nine h1 h2) (p := D x), hx]
  rw [off_congr (p := delP D id [x] x) (q := D x) (fun i hi => by simp [delP, hi])]
  simp [delP]
theorem fq_le (D : PostF) (x : ByteArray) : fq D x ≤ 9 := List.countP_le_length

def updQ (q : ByteArray → Nat) (x : ByteArray) (b : Nat) : ByteArray → Nat := fun y => if y = x then b else q y
theorem sm_add {D : PostF} {id : Int} {x : ByteArray} : updF (sm (D x)) id (some (.bool true)) = sm (addD D id [x] x) := by
  funext i
  unfold updF sm addD
  by_cases h : i = id <;> simp [h]
theorem sm_del {D : PostF} {id : Int} {x : ByteArray} : updF (sm (D x)) id none = sm (delP D id [x] x) := by
  funext i
  unfold updF sm delP
  by_cases h : i = id <;> simp [h]
theorem im_add {q : ByteArray → Nat} {D : PostF} {id : Int} {x : ByteArray} {b : Nat} (h1 : 1 ≤ id) (h2 : id ≤ 9) (hx : D x id = false) : updF (im q D) x (some (.agg #[.map (some b), .int .i64 ((fq D x : Int) + 1)])) = im (updQ q x b) (addD D id [x]) := by
  funext y
  unfold updF im updQ
  by_cases h : y = x
  · subst h
    rw [if_pos rfl, if_pos rfl, fq_add h1 h2 hx, if_neg (by omega)]
    simp
  · rw [if_neg h, if_neg h, fq_other D (addD D id [x]) y (fun i => by simp [addD, h])]
theorem cmK_add (T : TalF) (g : Int) (x : ByteArray) : updF (cmK T) (g, x) (some (.int .i64 ((T (g, x) : Int) + 1))) = cmK (addT T g [x]) := by
  funext k
  unfold updF cmK addT
  by_cases h : k = (g, x)
  · subst h; simp
  · have : ¬ (k.1 = g ∧ k.2 = x) := fun e => h (Prod.ext e.1 e.2)
    simp [h, this]
theorem cmK_get (T : TalF) (k : Int × ByteArray) : (cmK T k).getD (.int .i64 0) = .int .i64 (T k : Int) := by
  unfold cmK
  split
  · rename_i h; rw [h]; rfl
  · rfl
theorem cmK_del2 (T : TalF) (g : Int) (x : ByteArray) (h : 2 ≤ T (g, x)) : updF (cmK T) (g, x) (some (.int .i64 ((T (g, x) : Int) - 1))) = cmK (delT T g [x]) := by
  funext k
  unfold updF cmK delT
  by_cases hk : k = (g, x)
  · subst hk
    have e1 : ¬ T (g, x) - 1 = 0 := by omega
    simp [e1]; omega
  · have : ¬ (k.1 = g ∧ k.2 = x) := fun e => hk (Prod.ext e.1 e.2)
    simp [hk, this]
theorem cmK_del1 (T : TalF) (g : Int) (x : ByteArray) (v : Option Value) (h : T (g, x) = 1) : updF (updF (cmK T) (g, x) v) (g, x) none = cmK (delT T g [x]) := by
  funext k
  unfold updF cmK delT
  by_cases hk : k = (g, x)
  · subst hk; simp [h]
  · have : ¬ (k.1 = g ∧ k.2 = x) := fun e => hk (Prod.ext e.1 e.2)
    simp [hk, this]
theorem im_del0 {q : ByteArray → Nat} {D : PostF} {id : Int} {x : ByteArray} (h : fq (delP D id [x]) x = 0) : updF (im q D) x none = im q (delP D id [x]) := by
  funext y
  unfold updF im
  by_cases hy : y = x
  · subst hy; rw [if_pos rfl, if_pos h]
  · rw [if_neg hy, fq_other D (delP D id [x]) y (fun i => by simp [delP, hy])]
theorem im_del {q : ByteArray → Nat} {D : PostF} {id : Int} {x : ByteArray} (h1 : 1 ≤ id) (h2 : id ≤ 9) (hx : D x id = true) (h : fq (delP D id [x]) x ≠ 0) : updF (im q D) x (some (.agg #[.map (some (q x)), .int .i64 ((fq D x : Int) - 1)])) = im q (delP D id [x]) := by
  funext y
  unfold updF im
  by_cases hy : y = x
  · subst hy
    have := fq_del h1 h2 hx
    rw [if_pos rfl, if_neg h]
    have e : (fq (delP D id [y]) y : Int) = (fq D y : Int) - 1 := by omega
    rw [e]
  · rw [if_neg hy, fq_other D (delP D id [x]) y (fun i => by simp [delP, hy])]

/-- The index behind one word more. -/
theorem XI.more {w w' : World} {bi bb b : Nat} {q : ByteArray → Nat} {D : PostF} {T : TalF} {id g : Int} {x : ByteArray} (h : XI w bi bb q D T) (h1 : 1 ≤ id) (h2 : id ≤ 9) (hx : D x id = false)
    (hb : (fq D x ≠ 0 ∧ b = q x) ∨ (fq D x = 0 ∧ w.heap.size ≤ b)) (hf : Fr (fun i => i = bi ∨ i = bb ∨ i = b) w w')
    (mi : ∃ n, MapF sk w' bi (im (updQ q x b) (addD D id [x])) n) (mt : ∃ m, MapF kk w' bb (cmK (addT T g [x])) m) (ms : MapF ik w' b (sm (addD D id [x] x)) (fq D x + 1)) : XI w' bi bb (updQ q x b) (addD D id [x]) (addT T g [x]) := by
  obtain ⟨n, hi⟩ := h.inv
  obtain ⟨m, ht⟩ := h.tal
  have hbi : b ≠ bi ∧ b ≠ bb := by
    rcases hb with ⟨e1, e2⟩ | ⟨_, e2⟩
    · rw [e2]; exact h.ni x e1
    · have := hi.lt; have := ht.lt; omega
  have keep : ∀ y, y ≠ x → fq (addD D id [x]) y = fq D y := fun y hy => fq_other D _ y (fun i => by simp [addD, hy])
  have hbq : ∀ y, y ≠ x → fq D y ≠ 0 → q y ≠ b := by
    intro y hy hq e
    rcases hb with ⟨e1, e2⟩ | ⟨_, e2⟩
    · exact hy (h.inj y x hq e1 (e.trans e2))
    · have := (h.set y hq).lt; omega
  refine ⟨mi, mt, fun y hy => ?_, fun y z hy hz e => ?_, h.nb, fun y hy => ?_, fun y i hd => ?_⟩
  · by_cases c : y = x
    · subst c
      have : updQ q y b y = b := by simp [updQ]
      rw [this, fq_add h1 h2 hx]
      exact ms
    · have e1 : updQ q x b y = q y := by simp [updQ, c]
      have e2 := keep y c
      rw [e2] at hy ⊢
      rw [e1]
      have e3 : addD D id [x] y = D y := by funext i; simp [addD, c]
      rw [e3]
      refine (h.set y hy).fr hf ?_
      rintro (k | k | k)
      · exact (h.ni y hy).1 k
      · exact (h.ni y hy).2 k
      · exact hbq y c hy k
  · by_cases c1 : y = x
    · by_cases c2 : z = x
      · rw [c1, c2]
      · rw [keep z c2] at hz
        simp only [updQ, c1, c2, if_true, if_false] at e
        exact absurd e.symm (hbq z c2 hz)
    · rw [keep y c1] at hy
      by_cases c2 : z = x
      · simp only [updQ, c1, c2, if_true, if_false] at e
        exact absurd e (hbq y c1 hy)
      · rw [keep z c2] at hz
        simp only [updQ, c1, c2, if_false] at e
        exact h.inj y z hy hz e
  · by_cases c : y = x
    · simp only [updQ, c, if_true]; exact hbi
    · rw [keep y c] at hy
      simp only [updQ, c, if_false]
      exact h.ni y hy
  · unfold addD at hd
    simp at hd
    rcases hd with hd | ⟨hd, _⟩
    · exact h.sup y i hd
    · omega

/-- The index behind one word less. -/
theorem XI.less {w w' : World} {bi bb : Nat} {q : ByteArray → Nat} {D : PostF} {T : TalF} {id g : Int} {x : ByteArray} (h : XI w bi bb q D T) (h1 : 1 ≤ id) (h2 : id ≤ 9) (hx : D x id = true)
    (hf : Fr (fun i => i = bi ∨ i = bb ∨ i = q x) w w')
    (mi : ∃ n, MapF sk w' bi (im q (delP D id [x])) n) (mt : ∃ m, MapF kk w' bb (cmK (delT T g [x])) m) (ms : MapF ik w' (q x) (sm (delP D id [x] x)) (fq D x - 1)) : XI w' bi bb q (delP D id [x]) (delT T g [x]) := by
  have hd := fq_del h1 h2 hx
  have hx0 : fq D x ≠ 0 := by omega
  have keep : ∀ y, y ≠ x → fq (delP D id [x]) y = fq D y := fun y hy => fq_other D _ y (fun i => by simp [delP, hy])
  have sub : ∀ y, fq (delP D id [x]) y ≠ 0 → fq D y ≠ 0 := fun y hy => by
    by_cases c : y = x
    · rw [c]; exact hx0
    · rw [← keep y c]; exact hy
  refine ⟨mi, mt, fun y hy => ?_, fun y z hy hz e => h.inj y z (sub y hy) (sub z hz) e, h.nb, fun y hy => h.ni y (sub y hy), fun y i hd' => ?_⟩
  · by_cases c : y = x
    · subst c
      have e : fq (delP D id [y]) y = fq D y - 1 := by omega
      rw [e]; exact ms
    · have e2 := keep y c
      rw [e2] at hy ⊢
      have e3 : delP D id [x] y = D y := by funext i; simp [delP, c]
      rw [e3]
      refine (h.set y hy).fr hf ?_
      rintro (k | k | k)
      · exact (h.ni y hy).1 k
      · exact (h.ni y hy).2 k
      · exact c (h.inj y x hy hx0 k)
  · unfold delP at hd'
    simp at hd'
    exact h.sup y i hd'.1

end Go.Proofs.Qxb6500450aGreat
