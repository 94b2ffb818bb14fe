/- The index: what Check counts: plain facts. -/
import Derived.Test.Qxb6500449aIWords
namespace Go.Proofs.Qxb6500449a
open Go Go.RowKit
set_option maxRecDepth 100000
set_option maxHeartbeats 1600000
set_option linter.unusedSimpArgs false
set_option linter.unusedVariables false

theorem nodup_lenG {α : Type} [DecidableEq α] : ∀ {l m : List α}, l.Nodup → (∀ x ∈ l, x ∈ m) → l.length ≤ m.length
  | [], _, _, _ => by simp
  | a :: l, m, hn, h => by
    obtain ⟨h1, h2⟩ := List.nodup_cons.1 hn
    have ha := h a (by simp)
    have := nodup_lenG (l := l) (m := m.erase a) h2 (fun x hx => (List.mem_erase_of_ne (fun e => h1 (by rw [← e]; exact hx))).2 (h x (by simp [hx])))
    rw [List.length_erase_of_mem ha] at this
    have : 0 < m.length := List.length_pos_of_mem ha
    simp; omega
theorem look_keys {K : Type} [DecidableEq K] {l : List (Ent K)} {c : Nat} (h2 : Good l c) (k : K) : k ∈ l.map (·.key) ↔ (look l k).isSome = true := by
  constructor
  · intro hk
    obtain ⟨x, hx, rfl⟩ := List.mem_map.1 hk
    rw [look_of_mem h2.keys hx]; rfl
  · intro hk
    obtain e | ⟨d, e⟩ := opt (look l k)
    · rw [e] at hk; cases hk
    · obtain ⟨x, hx, rfl, _⟩ := look_mem e
      exact List.mem_map_of_mem hx
/-- Two maps that hold the same have as many entries. -/
theorem MapF.same {K : Type} [DecidableEq K] {kv : K → Value} {w w' : World} {b b' n n' : Nat} {f : K → Option Value} (h : MapF kv w b f n) (h' : MapF kv w' b' f n') : n = n' := by
  obtain ⟨l, c, h1, h2, h3, h4⟩ := h
  obtain ⟨l', c', h1', h2', h3', h4'⟩ := h'
  have hm : ∀ k, k ∈ l.map (·.key) ↔ k ∈ l'.map (·.key) := fun k => by rw [look_keys h2, look_keys h2', h3, h3']
  have e1 : l.length = (l.map (·.key)).length := by simp
  have e2 : l'.length = (l'.map (·.key)).length := by simp
  rw [← h4, ← h4', e1, e2]
  exact Nat.le_antisymm (nodup_lenG h2.keys (fun x hx => (hm x).1 hx)) (nodup_lenG h2'.keys (fun x hx => (hm x).2 hx))

/-! ### Pairs -/
def sumL {α : Type} (h : α → Nat) : List α → Nat
  | [] => 0
  | a :: l => h a + sumL h l
theorem sumL_snoc {α : Type} (h : α → Nat) (a : α) : ∀ l, sumL h (l ++ [a]) = sumL h l + h a
  | [] => by simp [sumL]
  | b :: l => by simp [sumL, sumL_snoc h a l]; omega
theorem sumL_add {α : Type} (h h' : α → Nat) : ∀ l, sumL (fun a => h a + h' a) l = sumL h l + sumL h' l
  | [] => rfl
  | a :: l => by simp [sumL, sumL_add h h' l]; omega
theorem sumL_zero {α : Type} : ∀ l : List α, sumL (fun _ => 0) l = 0
  | [] => rfl
  | a :: l => by simp [sumL, sumL_zero l]
theorem sumL_congr {α : Type} {h h' : α → Nat} : ∀ l : List α, (∀ a ∈ l, h a = h' a) → sumL h l = sumL h' l
  | [], _ => rfl
  | a :: l, e => by simp [sumL, e a (by simp), sumL_congr l (fun b hb => e b (by simp [hb]))]
/-- Counting the pairs by rows, by columns. -/
theorem sum_swap {α β : Type} (p : α → β → Bool) (m : List β) : ∀ l : List α, sumL (fun a => m.countP (p a)) l = sumL (fun b => l.countP fun a => p a b) m
  | [] => by simp [sumL, sumL_zero]
  | a :: l => by
    have e : sumL (fun b => (a :: l).countP fun a => p a b) m = sumL (fun b => l.countP (fun a => p a b) + (p a b).toNat) m := by
      apply sumL_congr
      intro b _
      rw [List.countP_cons]
      cases p a b <;> simp
    rw [e, sumL_add, ← sum_swap p m l, sumL]
    have : m.countP (p a) = sumL (fun b => (p a b).toNat) m := by
      clear e
      induction m with
      | nil => rfl
      | cons b m ih =>
        rw [List.countP_cons, sumL, ih]
        cases p a b <;> simp <;> omega
    omega
def pairsOf (f : DocF) (l : List Int) : Nat := sumL (fun i => (splitL (txt f i)).length) l
theorem nodup_lenE {a b : List ByteArray} (ha : a.Nodup) (hb : b.Nodup) (h : ∀ x, x ∈ a ↔ x ∈ b) : a.length = b.length := Nat.le_antisymm (nodup_lenB ha (fun x hx => (h x).1 hx)) (nodup_lenB hb (fun x hx => (h x).2 hx))
theorem pairs_eq {f : DocF} (ok : OkF f) {S : List ByteArray} (hn : S.Nodup) (hm : ∀ y, y ∈ S ↔ fq (hwD f) y ≠ 0) : sumL (fq (hwD f)) S = pairsOf f (ids f) := by
  have h1 : sumL (fq (hwD f)) S = sumL (fun i => S.countP fun y => hwD f y i) nine := sum_swap (fun y i => hwD f y i) nine S
  rw [h1]
  have h2 : ∀ i ∈ nine, S.countP (fun y => hwD f y i) = if (f i).isSome then (splitL (txt f i)).length else 0 := by
    intro i hi
    obtain e | ⟨⟨g, t⟩, e⟩ := opt (f i)
    · rw [e]
      simp only [Option.isSome_none, Bool.false_eq_true, if_false, List.countP_eq_zero]
      intro y _
      rw [hwD_none e]; simp
    · rw [e]
      simp only [Option.isSome_some, if_true]
      have et : txt f i = t := by simp [txt, e]
      rw [et, List.countP_eq_length_filter]
      refine nodup_lenE (hn.filter _) (splitL_nodup t) (fun y => ?_)
      rw [List.mem_filter, splitL_mem, hwD_some e]
      constructor
      · rintro ⟨_, h⟩; exact of_decide_eq_true h
      · intro h
        refine ⟨(hm y).2 ?_, decide_eq_true h⟩
        unfold fq
        intro h0
        rw [List.countP_eq_zero] at h0
        exact h0 i hi (by rw [hwD_some e]; simp [h])
  rw [sumL_congr nine h2]
  unfold pairsOf ids
  have : ∀ l : List Int, sumL (fun i => if (f i).isSome then (splitL (txt f i)).length else 0) l = sumL (fun i => (splitL (txt f i)).length) (l.filter fun i => (f i).isSome) := by
    intro l
    induction l with
    | nil => rfl
    | cons i l ih =>
      by_cases c : (f i).isSome = true
      · rw [List.filter_cons_of_pos (p := fun i => (f i).isSome) c, sumL, sumL, ih, if_pos c]
      · rw [List.filter_cons_of_neg (p := fun i => (f i).isSome) c, sumL, ih, if_neg c, Nat.zero_add]
  exact this nine
/-! ### What the law's own map holds -/
def grp (f : DocF) (i : Int) : Int := ((f i).map (·.1)).getD 0
def wantF (f : DocF) (l : List Int) : TalF := fun k => l.countP fun i => has f k.1 i && hwD f k.2 i
theorem wantF_nil (f : DocF) : wantF f [] = fun _ => 0 := by funext k; simp [wantF]
theorem wantF_snoc {f : DocF} {l : List Int} {i g : Int} {t : ByteArray} (h : f i = some (g, t)) : wantF f (l ++ [i]) = addT (wantF f l) g (splitL t) := by
  funext k
  unfold wantF addT
  rw [List.countP_append, List.countP_cons, List.countP_nil, has_of h, hwD_some h]
  by_cases c1 : k.1 = g
  · by_cases c2 : k.2 ∈ runs t
    · simp [c1, c2, splitL_mem]
    · simp [c1, c2, splitL_mem]
  · simp [c1]
theorem wantF_ids (f : DocF) : wantF f (ids f) = tlK f := by
  funext k
  unfold wantF tlK ids
  rw [List.countP_filter]
  apply List.countP_congr
  intro i _
  obtain e | ⟨d, e⟩ := opt (f i)
  · simp [has, e]
  · simp [e]
theorem wantF_le (f : DocF) (l : List Int) (k : Int × ByteArray) : wantF f l k ≤ l.length := List.countP_le_length
theorem pairsOf_snoc (f : DocF) (l : List Int) (i : Int) : pairsOf f (l ++ [i]) = pairsOf f l + (splitL (txt f i)).length := sumL_snoc _ _ _
theorem sumL_le {α : Type} (h : α → Nat) (c : Nat) (hc : ∀ a, h a ≤ c) : ∀ l : List α, sumL h l ≤ c * l.length
  | [] => by simp [sumL]
  | a :: l => by
    have := hc a
    have := sumL_le h c hc l
    simp [sumL, Nat.mul_add]; omega

end Go.Proofs.Qxb6500449a
