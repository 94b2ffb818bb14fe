/- ahead, ranked, Top. -/
import Derived.Test.Qxb6500450aGreatQGrp
import Derived.Test.Qxb6500450aGreatPCut
namespace Go.Proofs.Qxb6500450aGreat
open Go Go.RowKit
set_option maxRecDepth 100000
set_option maxHeartbeats 1600000
set_option linter.unusedSimpArgs false
set_option linter.unusedVariables false
variable {bS bX : Nat}

section
variable {α : Type}
/-- x laid into S ahead of place k. -/
def insG (S : List α) (k : Nat) (x : α) : List α := S.take k ++ x :: S.drop k
theorem insG_len (S : List α) (k : Nat) (x : α) (h : k ≤ S.length) : (insG S k x).length = S.length + 1 := by
  simp [insG]; omega
theorem insG_end (S : List α) (x : α) : insG S S.length x = S ++ [x] := by simp [insG]
theorem insG_mem (S : List α) (k : Nat) (x y : α) : y ∈ insG S k x ↔ y = x ∨ y ∈ S := by
  have : y ∈ S ↔ y ∈ S.take k ∨ y ∈ S.drop k := by rw [← List.mem_append, List.take_append_drop]
  rw [this]
  simp only [insG, List.mem_append, List.mem_cons]
  constructor
  · rintro (h | h | h) <;> simp [h]
  · rintro (h | h | h) <;> simp [h]
theorem insG_at (S : List α) (k : Nat) (x d : α) (h : k ≤ S.length) : (insG S k x).getD k d = x := by
  unfold insG
  rw [List.getD_eq_getElem?_getD, List.getElem?_append_right (by simp; omega)]
  simp [Nat.min_eq_left h]
theorem insG_before (S : List α) (j : Nat) (x d : α) (h : j < S.length) : (insG S (j + 1) x).getD j d = S[j] := by
  unfold insG
  rw [List.getD_eq_getElem?_getD, List.getElem?_append_left (by simp; omega), List.getElem?_take]
  simp [h]
theorem insG_swap (S : List α) (j : Nat) (x : α) (h : j < S.length) : ((insG S (j + 1) x).set (j + 1) S[j]).set j x = insG S j x := by
  rw [List.set_comm _ _ (by omega)]
  apply List.ext_getElem?
  intro i
  unfold insG
  rw [List.getElem?_set, List.getElem?_set]
  have hl : (S.take (j + 1) ++ x :: S.drop (j + 1)).length = S.length + 1 := by simp; omega
  by_cases h1 : j + 1 = i
  · subst h1
    rw [if_pos rfl, if_pos (by rw [List.length_set, hl]; omega)]
    rw [List.getElem?_append_right (by simp; omega)]
    have : (S.take j).length = j := by simp; omega
    rw [this, Nat.add_sub_cancel_left, List.getElem?_cons_succ]
    simp [h]
  · rw [if_neg h1]
    by_cases h2 : j = i
    · subst h2
      rw [if_pos rfl, if_pos (by rw [hl]; omega), List.getElem?_append_right (by simp; omega)]
      have : (S.take j).length = j := by simp; omega
      rw [this]
      simp
    · rw [if_neg h2]
      rcases Nat.lt_or_ge i j with h3 | h3
      · rw [List.getElem?_append_left (by simp; omega), List.getElem?_append_left (by simp; omega), List.getElem?_take, List.getElem?_take]
        rw [if_pos (by omega), if_pos (by omega)]
      · rw [List.getElem?_append_right (by simp; omega), List.getElem?_append_right (by simp; omega)]
        have e1 : (S.take (j + 1)).length = j + 1 := by simp; omega
        have e2 : (S.take j).length = j := by simp; omega
        rw [e1, e2]
        obtain ⟨m, rfl⟩ : ∃ m, i = j + 2 + m := ⟨i - (j + 2), by omega⟩
        rw [show j + 2 + m - (j + 1) = m + 1 from by omega, show j + 2 + m - j = m + 1 + 1 from by omega, List.getElem?_cons_succ, List.getElem?_cons_succ, List.getElem?_drop, List.getElem?_drop]
        congr 1; omega
theorem insG_pw {R : α → α → Prop} (tr : ∀ a b c, R a b → R b c → R a c) {S : List α} (h : S.Pairwise R) {k : Nat} {x : α} (hk : k ≤ S.length) (h1 : ∀ y ∈ S.drop k, R x y) (h2 : k = 0 ∨ ∃ j, k = j + 1 ∧ ∃ hj : j < S.length, R S[j] x) : (insG S k x).Pairwise R := by
  unfold insG
  rw [List.pairwise_append]
  have hp : (S.take k ++ S.drop k).Pairwise R := by rw [List.take_append_drop]; exact h
  obtain ⟨p1, p2, p3⟩ := List.pairwise_append.1 hp
  have hx : ∀ y ∈ S.take k, R y x := by
    rcases h2 with rfl | ⟨j, rfl, hj, hlt⟩
    · simp
    · intro y hy
      rw [List.take_succ_eq_append_getElem hj] at hy p1
      rcases List.mem_append.1 hy with hy | hy
      · exact tr _ _ _ ((List.pairwise_append.1 p1).2.2 y hy S[j] (by simp)) hlt
      · simp at hy; rw [hy]; exact hlt
  refine ⟨p1, List.pairwise_cons.2 ⟨h1, p2⟩, fun y hy z hz => ?_⟩
  rcases List.mem_cons.1 hz with rfl | hz
  · exact hx y hy
  · exact p3 y hy z hz
/-- Two lists in one strict order with the same members are one. -/
theorem pw_ext {R : α → α → Prop} (ir : ∀ a, ¬ R a a) (tr : ∀ a b c, R a b → R b c → R a c) : ∀ {a b : List α}, a.Pairwise R → b.Pairwise R → (∀ x, x ∈ a ↔ x ∈ b) → a = b
  | [], [], _, _, _ => rfl
  | [], y :: b, _, _, h => by have := (h y).2 (by simp); simp at this
  | x :: a, [], _, _, h => by have := (h x).1 (by simp); simp at this
  | x :: a, y :: b, ha, hb, h => by
    obtain ⟨a1, a2⟩ := List.pairwise_cons.1 ha
    obtain ⟨b1, b2⟩ := List.pairwise_cons.1 hb
    have e : x = y := by
      have hx := (h x).1 (by simp)
      have hy := (h y).2 (by simp)
      rcases List.mem_cons.1 hx with e | hx
      · exact e
      · rcases List.mem_cons.1 hy with e | hy
        · exact e.symm
        · exact absurd (tr _ _ _ (b1 x hx) (a1 y hy)) (ir y)
    subst e
    rw [pw_ext ir tr a2 b2 (fun z => ?_)]
    have hz := h z
    simp only [List.mem_cons] at hz
    constructor
    · intro hza
      rcases hz.1 (.inr hza) with e | hzb
      · subst e; exact absurd (a1 z hza) (ir z)
      · exact hzb
    · intro hzb
      rcases hz.2 (.inr hzb) with e | hza
      · subst e; exact absurd (b1 z hzb) (ir z)
      · exact hza
end

/-- Word x goes before word y. -/
def aheadR (f : DocF) (x y : ByteArray) : Prop := frq f y < frq f x ∨ (frq f x = frq f y ∧ ltS x y)
instance (f : DocF) (x y : ByteArray) : Decidable (aheadR f x y) := by unfold aheadR; infer_instance
theorem aheadR_irrefl (f : DocF) (x : ByteArray) : ¬ aheadR f x x := by
  rintro (h | h)
  · omega
  · exact ltS_irrefl x h.2
theorem aheadR_trans (f : DocF) (x y z : ByteArray) (h1 : aheadR f x y) (h2 : aheadR f y z) : aheadR f x z := by
  rcases h1 with h1 | ⟨h1, k1⟩
  · rcases h2 with h2 | ⟨h2, k2⟩
    · left; omega
    · left; omega
  · rcases h2 with h2 | ⟨h2, k2⟩
    · left; omega
    · right; exact ⟨by omega, ltS_trans k1 k2⟩
theorem aheadR_tri (f : DocF) {x y : ByteArray} (h : ¬ aheadR f x y) (hn : x ≠ y) : aheadR f y x := by
  by_cases c : frq f x = frq f y
  · right
    refine ⟨c.symm, ?_⟩
    rcases ltS_tri x y with k | k | k
    · exact absurd (.inr ⟨c, k⟩) h
    · exact absurd k hn
    · exact k
  · left
    by_cases c2 : frq f y < frq f x
    · exact absurd (.inl c2) h
    · omega
theorem frq_le {f : DocF} (ok : OkF f) (x : ByteArray) : frq f x ≤ 6 := by
  unfold frq
  split
  · omega
  · refine Nat.le_trans ?_ ok.few
    unfold fq nDocs
    refine List.countP_mono_left fun i _ hi => ?_
    obtain e | ⟨⟨g, t⟩, e⟩ := opt (f i)
    · rw [hwD_none e] at hi; cases hi
    · simp [e]
theorem frq_pos {f : DocF} (ok : OkF f) {x : ByteArray} (hx : x ∈ wordsOf f) : 1 ≤ frq f x := by
  have h1 := (wordsOf_mem ok x).1 hx
  have h2 := (wordsOf_size ok hx).2
  unfold frq
  rw [if_neg (by omega)]
  omega
/-- The words by falling frequency, among equals ascending. -/
def rankL (f : DocF) : List ByteArray := [6, 5, 4, 3, 2, 1].flatMap fun n : Nat => (wordsOf f).filter fun x => frq f x == n
theorem rankL_mem {f : DocF} (ok : OkF f) (x : ByteArray) : x ∈ rankL f ↔ x ∈ wordsOf f := by
  unfold rankL
  rw [List.mem_flatMap]
  constructor
  · rintro ⟨n, _, h⟩
    exact (List.mem_filter.1 h).1
  · intro h
    refine ⟨frq f x, ?_, List.mem_filter.2 ⟨h, by simp⟩⟩
    have h1 := frq_le ok x
    have h2 := frq_pos ok h
    have : frq f x = 6 ∨ frq f x = 5 ∨ frq f x = 4 ∨ frq f x = 3 ∨ frq f x = 2 ∨ frq f x = 1 := by omega
    rcases this with c | c | c | c | c | c <;> rw [c] <;> simp
theorem rankL_pw (f : DocF) : (rankL f).Pairwise (aheadR f) := by
  unfold rankL
  have key : ∀ ns : List Nat, ns.Pairwise (· > ·) → (ns.flatMap fun n : Nat => (wordsOf f).filter fun x => frq f x == n).Pairwise (aheadR f) := by
    intro ns
    induction ns with
    | nil => intro _; simp
    | cons n ns ih =>
      intro h
      obtain ⟨h1, h2⟩ := List.pairwise_cons.1 h
      rw [List.flatMap_cons, List.pairwise_append]
      refine ⟨?_, ih h2, ?_⟩
      · rw [List.pairwise_filter]
        refine (wordsOf_asc f).imp ?_
        intro a b hab ha hb
        simp at ha hb
        exact .inr ⟨by rw [ha, hb], hab⟩
      · intro a ha b hb
        obtain ⟨m, hm, hb⟩ := List.mem_flatMap.1 hb
        have e1 := (List.mem_filter.1 ha).2
        have e2 := (List.mem_filter.1 hb).2
        simp at e1 e2
        left
        have := h1 m hm
        omega
  exact key _ (by decide)
theorem rankL_nodup (f : DocF) : (rankL f).Nodup := by
  unfold List.Nodup
  refine (rankL_pw f).imp ?_
  intro a b hab e
  subst e
  exact aheadR_irrefl f _ hab
theorem rankL_len {f : DocF} (ok : OkF f) : (rankL f).length = (wordsOf f).length :=
  Nat.le_antisymm (nodup_lenB (rankL_nodup f) (fun x hx => (rankL_mem ok x).1 hx)) (nodup_lenB (ascS_nodup (wordsOf_asc f)) (fun x hx => (rankL_mem ok x).2 hx))

/-- The counts of the words l. -/
def fqm (f : DocF) (l : List ByteArray) (x : ByteArray) : Option Value := if x ∈ l then some (.int .i64 (frq f x : Int)) else none
theorem fqm_nil (f : DocF) : (fun _ => none) = fqm f [] := by funext x; simp [fqm]
theorem fqm_add (f : DocF) (l : List ByteArray) (x : ByteArray) : updF (fqm f l) x (some (.int .i64 (frq f x : Int))) = fqm f (l ++ [x]) := by
  funext y
  unfold updF fqm
  by_cases h : y = x
  · subst h; simp
  · simp [h]
theorem fqm_get {f : DocF} {l : List ByteArray} {x : ByteArray} (h : x ∈ l) : (fqm f l x).getD (.int .i64 0) = .int .i64 (frq f x : Int) := by simp [fqm, h]
theorem fqm_some (f : DocF) (l : List ByteArray) (x : ByteArray) : (fqm f l x).isSome = decide (x ∈ l) := by
  unfold fqm
  by_cases h : x ∈ l <;> simp [h]
theorem uFreq : Tryz.prog.underlying 98 = some (.map 9 3) := by kernel_rfl

theorem ahead_any {w : World} {b n : Nat} {f : DocF} {l : List ByteArray} (h : MapF sk w b (fqm f l) n) {x y : ByteArray} (hx : x ∈ l) (hy : y ∈ l) :
    Calls Tryz.prog 85 #[.map (some b), .string x, .string y] w fun e w' => e = .returned (.bool (decide (aheadR f x y))) ∧ w' = w := by
  have H := hid h
  have GX := hid (fqm_get (f := f) hx)
  have GY := hid (fqm_get (f := f) hy)
  clear h hx hy
  by_cases he : frq f x = frq f y
  · have HE : Hid (decide (aheadR f x y) = Op.bytesLess x.toList y.toList) := by
      unfold Hid
      rw [Bool.eq_iff_iff, decide_eq_true_iff]
      constructor
      · rintro (h | h)
        · omega
        · exact h.2
      · intro h; exact .inr ⟨he, h⟩
    have hne : ((frq f x : Int) != (frq f y : Int)) = false := by simp [he]
    clear he
    go_enter Tryz.func85, Tryz.ntmps85
    go_wp2_with (first
      | (at_lookup; refine wp_look1 rfl rfl kStr uFreq zInt H.out rfl (k := x) rfl GX.out ?_)
      | (at_lookup; refine wp_look1 rfl rfl kStr uFreq zInt H.out rfl (k := y) rfl GY.out ?_)
      | go_in)
    go_ret
    rw [HE.out]
    exact ⟨rfl, rfl⟩
  · by_cases hlt : frq f y < frq f x
    · have HE : Hid (decide (aheadR f x y) = true) := by
        unfold Hid
        exact decide_eq_true (.inl hlt)
      have hl : (frq f y : Int) < (frq f x : Int) := by omega
      have hne : ((frq f x : Int) != (frq f y : Int)) = true := by simp; omega
      clear he hlt
      go_enter Tryz.func85, Tryz.ntmps85
      go_wp2_with (first
        | (at_lookup; refine wp_look1 rfl rfl kStr uFreq zInt H.out rfl (k := x) rfl GX.out ?_)
        | (at_lookup; refine wp_look1 rfl rfl kStr uFreq zInt H.out rfl (k := y) rfl GY.out ?_)
        | go_in)
      go_ret
      rw [HE.out]
      exact ⟨rfl, rfl⟩
    · have HE : Hid (decide (aheadR f x y) = false) := by
        unfold Hid
        exact decide_eq_false (fun c => c.elim hlt (fun c => he c.1))
      have hl : ¬ (frq f y : Int) < (frq f x : Int) := by omega
      have hne : ((frq f x : Int) != (frq f y : Int)) = true := by simp; omega
      clear he hlt
      go_enter Tryz.func85, Tryz.ntmps85
      go_wp2_with (first
        | (at_lookup; refine wp_look1 rfl rfl kStr uFreq zInt H.out rfl (k := x) rfl GX.out ?_)
        | (at_lookup; refine wp_look1 rfl rfl kStr uFreq zInt H.out rfl (k := y) rfl GY.out ?_)
        | go_in)
      go_ret
      rw [HE.out]
      exact ⟨rfl, rfl⟩

end Go.Proofs.Qxb6500450aGreat
