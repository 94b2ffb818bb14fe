/- The words of all documents, in order; the index's Words. -/
import Derived.Test.Qxb6500450aGreatIAsk
namespace Go.Proofs.Qxb6500450aGreat
open Go Go.RowKit
set_option maxRecDepth 100000
set_option maxHeartbeats 1600000
set_option linter.unusedSimpArgs false
set_option linter.unusedVariables false
variable {bS : Nat}

instance (x y : ByteArray) : Decidable (ltS x y) := by unfold ltS; infer_instance
/-- s laid into the ascending list at its place, unless it is there. -/
def into : List ByteArray → ByteArray → List ByteArray
  | [], s => [s]
  | a :: l, s => if ltS a s then a :: into l s else if a = s then a :: l else s :: a :: l
theorem into_mem (y s : ByteArray) : ∀ l, y ∈ into l s ↔ y = s ∨ y ∈ l
  | [] => by simp [into]
  | a :: l => by
    unfold into
    split
    · rw [List.mem_cons, into_mem y s l, List.mem_cons]
      constructor
      · rintro (h | h | h)
        · exact .inr (.inl h)
        · exact .inl h
        · exact .inr (.inr h)
      · rintro (h | h | h)
        · exact .inr (.inl h)
        · exact .inl h
        · exact .inr (.inr h)
    · split
      · rename_i h
        subst h
        simp
      · simp
theorem into_asc (s : ByteArray) : ∀ l : List ByteArray, l.Pairwise ltS → (into l s).Pairwise ltS
  | [], _ => by simp [into]
  | a :: l, h => by
    obtain ⟨h1, h2⟩ := List.pairwise_cons.1 h
    unfold into
    split
    · rename_i hc
      rw [List.pairwise_cons]
      refine ⟨fun b hb => ?_, into_asc s l h2⟩
      rcases (into_mem b s l).1 hb with rfl | hb
      · exact hc
      · exact h1 b hb
    · rename_i hc
      split
      · exact h
      · rename_i hne
        have hsa : ltS s a := by
          rcases ltS_tri a s with c | c | c
          · exact absurd c hc
          · exact absurd c hne
          · exact c
        rw [List.pairwise_cons]
        refine ⟨fun b hb => ?_, h⟩
        rcases List.mem_cons.1 hb with rfl | hb
        · exact hsa
        · exact ltS_trans hsa (h1 b hb)
theorem foldI_mem (y : ByteArray) : ∀ (r l : List ByteArray), y ∈ r.foldl into l ↔ y ∈ l ∨ y ∈ r
  | [], l => by simp
  | x :: r, l => by
    rw [List.foldl_cons, foldI_mem y r, into_mem]
    simp only [List.mem_cons]
    constructor
    · rintro ((h | h) | h)
      · exact .inr (.inl h)
      · exact .inl h
      · exact .inr (.inr h)
    · rintro (h | h | h)
      · exact .inl (.inr h)
      · exact .inl (.inl h)
      · exact .inr h
theorem foldI_asc : ∀ (r l : List ByteArray), l.Pairwise ltS → (r.foldl into l).Pairwise ltS
  | [], l, h => h
  | x :: r, l, h => foldI_asc r _ (into_asc x l h)
/-- Two strictly ascending lists with the same members are one. -/
theorem ascS_ext : ∀ {a b : List ByteArray}, a.Pairwise ltS → b.Pairwise ltS → (∀ x, x ∈ a ↔ x ∈ b) → a = b
  | [], [], _, _, _ => rfl
  | [], y :: b, _, _, h => by have := (h y).2 (by simp); simp at this
  | x :: a, [], _, _, h => by have := (h x).1 (by simp); simp at this
  | x :: a, y :: b, ha, hb, h => by
    obtain ⟨a1, a2⟩ := List.pairwise_cons.1 ha
    obtain ⟨b1, b2⟩ := List.pairwise_cons.1 hb
    have e : x = y := by
      have hx := (h x).1 (by simp)
      have hy := (h y).2 (by simp)
      rcases List.mem_cons.1 hx with e | hx
      · exact e
      · rcases List.mem_cons.1 hy with e | hy
        · exact e.symm
        · exact absurd (ltS_trans (b1 x hx) (a1 y hy)) (ltS_irrefl y)
    subst e
    rw [ascS_ext a2 b2 (fun z => ?_)]
    have hz := h z
    simp only [List.mem_cons] at hz
    constructor
    · intro hza
      rcases hz.1 (.inr hza) with e | hzb
      · subst e; exact absurd (a1 z hza) (ltS_irrefl z)
      · exact hzb
    · intro hzb
      rcases hz.2 (.inr hzb) with e | hza
      · subst e; exact absurd (b1 z hzb) (ltS_irrefl z)
      · exact hza
theorem nodup_lenB : ∀ {l m : List ByteArray}, l.Nodup → (∀ x ∈ l, x ∈ m) → l.length ≤ m.length
  | [], _, _, _ => by simp
  | a :: l, m, hn, h => by
    obtain ⟨h1, h2⟩ := List.nodup_cons.1 hn
    have ha := h a (by simp)
    have := nodup_lenB (l := l) (m := m.erase a) h2 (fun x hx => (List.mem_erase_of_ne (fun e => h1 (by rw [← e]; exact hx))).2 (h x (by simp [hx])))
    rw [List.length_erase_of_mem ha] at this
    have : 0 < m.length := List.length_pos_of_mem ha
    simp; omega

def txt (f : DocF) (i : Int) : ByteArray := ((f i).map (·.2)).getD ⟨#[]⟩
def bag (f : DocF) : List ByteArray := (ids f).flatMap fun i => runs (txt f i)
/-- Every word that some document holds, each once, ascending. -/
def wordsOf (f : DocF) : List ByteArray := (bag f).foldl into []
theorem bag_mem {f : DocF} (ok : OkF f) (x : ByteArray) : x ∈ bag f ↔ fq (hwD f) x ≠ 0 := by
  unfold bag
  rw [List.mem_flatMap]
  constructor
  · rintro ⟨i, hi, hx⟩
    have hs := (ids_mem ok i).1 hi
    obtain e | ⟨⟨g, t⟩, e⟩ := opt (f i)
    · rw [e] at hs; cases hs
    · have ht : txt f i = t := by simp [txt, e]
      rw [ht] at hx
      obtain ⟨h1, h2, _⟩ := ok.rng i _ e
      unfold fq
      intro h0
      rw [List.countP_eq_zero] at h0
      exact h0 i (mem_nine h1 h2) (by rw [hwD_some e]; simp [hx])
  · intro h
    unfold fq at h
    have h' : 0 < nine.countP (hwD f x) := Nat.pos_of_ne_zero h
    obtain ⟨i, hi, hd⟩ := List.countP_pos_iff.1 h'
    obtain e | ⟨⟨g, t⟩, e⟩ := opt (f i)
    · rw [hwD_none e] at hd; cases hd
    · refine ⟨i, (ids_mem ok i).2 (by rw [e]; rfl), ?_⟩
      have ht : txt f i = t := by simp [txt, e]
      rw [ht]
      rw [hwD_some e] at hd
      exact of_decide_eq_true hd
theorem wordsOf_mem {f : DocF} (ok : OkF f) (x : ByteArray) : x ∈ wordsOf f ↔ fq (hwD f) x ≠ 0 := by
  unfold wordsOf
  rw [foldI_mem, ← bag_mem ok]
  simp
theorem wordsOf_asc (f : DocF) : (wordsOf f).Pairwise ltS := foldI_asc _ _ .nil
theorem txt_size {f : DocF} (ok : OkF f) (i : Int) : (txt f i).size ≤ 12 := by
  obtain e | ⟨⟨g, t⟩, e⟩ := opt (f i)
  · have : txt f i = ⟨#[]⟩ := by simp [txt, e]
    rw [this]
    exact Nat.zero_le _
  · have := (ok.rng i _ e).2.2.2.2
    simpa [txt, e] using this
theorem bag_len {f : DocF} (ok : OkF f) : (bag f).length ≤ 117 := by
  unfold bag
  have : ∀ l : List Int, (l.flatMap fun i => runs (txt f i)).length ≤ 13 * l.length := by
    intro l
    induction l with
    | nil => simp
    | cons i l ih =>
      have h1 := runs_len (txt f i)
      have h2 := txt_size ok i
      rw [List.flatMap_cons, List.length_append, List.length_cons]
      omega
  have h1 := this (ids f)
  have h2 := ids_len f
  have h3 := nDocs_le f
  omega
theorem ascS_nodup {l : List ByteArray} (h : l.Pairwise ltS) : l.Nodup := by
  unfold List.Nodup
  refine h.imp ?_
  intro a b hab e
  subst e
  exact ltS_irrefl _ hab
theorem filter_ltB {k : ByteArray} {l : List ByteArray} (h : k ∈ l) : (l.filter (· ≠ k)).length < l.length :=
  List.length_filter_lt_length_iff_exists.2 ⟨k, h, by simp⟩
theorem wordsOf_len {f : DocF} (ok : OkF f) : (wordsOf f).length ≤ 117 :=
  Nat.le_trans (nodup_lenB (ascS_nodup (wordsOf_asc f)) (fun x hx => (bag_mem ok x).2 ((wordsOf_mem ok x).1 hx))) (bag_len ok)
theorem wordsOf_size {f : DocF} (ok : OkF f) {x : ByteArray} (hx : x ∈ wordsOf f) : 0 < x.size ∧ x.size ≤ 12 := by
  have hb := (bag_mem ok x).2 ((wordsOf_mem ok x).1 hx)
  unfold bag at hb
  obtain ⟨i, hi, hr⟩ := List.mem_flatMap.1 hb
  have h1 := runs_size hr
  have h2 := txt_size ok i
  exact ⟨h1.1, by omega⟩
theorem ascS_of {l : List ByteArray} (h : l.Pairwise leS) (hn : l.Nodup) : l.Pairwise ltS := by
  refine (h.and hn).imp ?_
  rintro a b ⟨h1, h2⟩
  rcases ltS_tri a b with c | c | c
  · exact c
  · exact absurd c h2
  · exact absurd c h1

theorem iwords_any {w : World} {F : Nat → Prop} {bX : Nat} {f : DocF} {r : Int → Nat} (h : XR bS w F bX f r) :
    Calls Tryz.prog 58 #[.pointer (some ⟨bX, 0, none⟩)] w fun e w' => ∃ v, e = .returned v ∧ OwnS w' w.heap.size v (wordsOf f) ∧ (wordsOf f = [] → v = .slice none 0 0) ∧ Fr (fun _ => False) w w' := by
  have ok := h.ok
  obtain ⟨bi, bb, q, FS, h⟩ := h
  have H := hid h
  have c1 := h.x1.c
  obtain ⟨n, mi⟩ := h.xi.inv
  have MI := hid mi
  have OK := hid ok
  clear h mi ok
  go_enter Tryz.func58, Tryz.ntmps58
  go_wp2_with (first
    | (at_range; refine wp_range rfl rfl uInv MI.out rfl ?_; intro w1 left0 rg1 ln1 lm1 f1 z1; go_frame)
    | go_in)
  obtain ⟨rb, hrb⟩ : ∃ rb, rb = w.heap.size := ⟨_, rfl⟩
  rw [← hrb] at rg1 z1 ⊢
  have HRB := hid hrb
  have L1 : Hid (∀ k, k ∈ left0 ↔ fq (hwD f) k ≠ 0) := fun k => by
    rw [lm1 k]
    unfold im
    by_cases c : fq (hwD f) k = 0 <;> simp [c]
  clear hrb ln1 lm1 c1
  go_loopw [3] (fun v wr => ∃ left S, Ranges sk wr bi rb (im q (hwD f)) left ∧ OwnS wr (rb + 1) v S ∧ S.Nodup ∧ (∀ k, k ∈ S ↔ fq (hwD f) k ≠ 0 ∧ k ∉ left) ∧ (S = [] → v = .slice none 0 0) ∧ Fr (fun _ => False) w wr ∧ rb + 1 ≤ wr.heap.size) (fun _ wr => wr.rangeLeft bi rb)
  case atStart => exact ⟨left0, [], rg1, OwnS.nil _ _, List.nodup_nil, fun k => by have := L1.out k; simp; exact fun h => this.2 h, fun _ => rfl, f1, by omega⟩
  case round =>
    obtain ⟨left, S, rg, hown, hnd, hmem, hnl, fr, hsz⟩ := hrel
    have RG := hid rg
    have OW := hid hown
    have ND := hid hnd
    have ME := hid hmem
    have FR := hid fr
    have NL := hid hnl
    have hrS := rg.ne
    have hlS : S.length ≤ 117 := Nat.le_trans (nodup_lenB hnd (fun y hy => (bag_mem OK.out y).2 ((hmem y).1 hy).1)) (bag_len OK.out)
    clear fr hown hnd hmem hnl
    generalize u3 = v at *
    rcases rg.next (P := Tryz.prog) 0 with ⟨hnil, hrun⟩ | ⟨k, vv, w2, hk, hv, hrun, hen, rg2, f2, z2⟩
    · clear rg
      subst hnil
      have HM : Hid (∀ k, k ∈ S ↔ fq (hwD f) k ≠ 0) := fun k => by rw [ME.out k]; simp
      go_wp2_with fail
      refine (sortS_any OW.out (by omega)).mono ?_
      rintro e w3 ⟨rfl, ⟨l', ow, pm, so⟩, f3⟩
      have HL : Hid (l' = wordsOf f) := by
        refine ascS_ext (ascS_of so (pm.nodup_iff.2 ND.out)) (wordsOf_asc f) (fun y => ?_)
        rw [pm.mem_iff, HM.out y, wordsOf_mem OK.out]
      have OW3 := hid ow
      have F3 : Hid (Fr (fun _ => False) w w3) := FR.out.then f3 (fun i hi c => by have := (OW.out.lt c).1; have := HRB.out; omega)
      have NL3 : Hid (l' = [] → v = .slice none 0 0) := fun e => NL.out (by subst e; exact pm.symm.eq_nil)
      clear ow pm so f3
      go_wp2_with fail
      go_ret
      rw [← HL.out]
      exact ⟨_, rfl, OW3.out.base (by have := HRB.out; omega), NL3.out, F3.out⟩
    · have OW2 := hid (OW.out.fr f2 (fun j hj e => by have := (OW.out.lt hj).1; omega))
      have FR2 := hid (FR.out.then f2 (fun i hi e => absurd hi (by rw [e, HRB.out]; omega)))
      have RG2 := hid rg2
      have HK := hid hk
      have hz2 : rb + 1 ≤ w2.heap.size := by omega
      have HF : Hid (fq (hwD f) k ≠ 0) := by
        have := rg.here hk
        unfold im at this
        unfold Hid
        intro c
        rw [if_pos c] at this
        cases this
      simp only [sk] at hrun hen
      clear rg rg2 hv f2 z2 OW
      clear hk
      go_wp2_with (first
        | (at_builtin; refine wp_appS rfl rfl (v := v) rfl (OW2.out.fr ((Fr.refl (fun _ => False) _).alloc _) (fun _ _ h => h)) rfl (y := k) (At.new w2 #[.string k] _ rfl).c (by omega) (by simp; omega) ?_; intro g cap w3 ow3 f3 hg3 hl3; go_frame)
        | go_in)
      have fA := (Fr.refl (fun _ => False) w2).alloc (.cells #[.string k] 9)
      have f03 : Fr (fun _ => False) w w3 := (FR2.out.trans fA).then f3 (fun i hi e => by have := (OW2.out.lt e).1; have := HRB.out; omega)
      have RG3 := (RG2.out.fr fA (fun h => h) (fun h => h)).fr f3 (fun e => by have := (OW2.out.lt e).1; have := MI.out.lt; have := HRB.out; omega) (fun e => by have := (OW2.out.lt e).1; omega)
      refine ⟨⟨left.filter (· ≠ k), S ++ [k], RG3, by simpa using ow3, ?_, fun y => ?_, fun e => absurd (congrArg List.length e) (by simp), f03, by have := fA.size; have := f3.size; omega⟩, ?_⟩
      · rw [List.nodup_append]
        refine ⟨ND.out, by simp, ?_⟩
        intro a ha b hb e
        simp at hb
        subst hb
        rw [e] at ha
        exact ((ME.out b).1 ha).2 HK.out
      · rw [List.mem_append, ME.out y, List.mem_filter]
        by_cases e : y = k
        · subst e; simp [HF.out]
        · simp [e]
      · rw [RG3.left_eq, RG.out.left_eq]; exact filter_ltB HK.out

end Go.Proofs.Qxb6500450aGreat
