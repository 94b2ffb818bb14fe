/- The index over the documents: its plain laws; its representation. -/
import Derived.Test.Qxb6500450aGreatIRem
namespace Go.Proofs.Qxb6500450aGreat
open Go Go.RowKit
set_option maxRecDepth 100000
set_option maxHeartbeats 1600000
set_option linter.unusedSimpArgs false
set_option linter.unusedVariables false
variable {bS : Nat}

def hwD (f : DocF) : PostF := fun x i => (f i).any fun d => decide (x ∈ runs d.2)
def tlK (f : DocF) : TalF := fun k => nine.countP fun i => has f k.1 i && hwD f k.2 i

theorem hwD_none {f : DocF} {i : Int} (h : f i = none) (x : ByteArray) : hwD f x i = false := by simp [hwD, h]
theorem hwD_some {f : DocF} {i g : Int} {t : ByteArray} (h : f i = some (g, t)) (x : ByteArray) : hwD f x i = decide (x ∈ runs t) := by simp [hwD, h]
theorem hwD_put (f : DocF) (id g : Int) (t : ByteArray) (h : f id = none) : hwD (putD f id g t) = addD (hwD f) id (splitL t) := by
  funext x i
  unfold addD
  by_cases e : i = id
  · subst e
    have : putD f i g t i = some (g, t) := by simp [putD]
    rw [hwD_some this, hwD_none h]
    simp [splitL_mem]
  · have : putD f id g t i = f i := by simp [putD, e]
    simp [hwD, this, e]
theorem hwD_del {f : DocF} {id g : Int} {t : ByteArray} (h : f id = some (g, t)) : hwD (delD f id) = delP (hwD f) id (splitL t) := by
  funext x i
  unfold delP
  by_cases e : i = id
  · subst e
    have : delD f i i = none := by simp [delD]
    rw [hwD_none this, hwD_some h]
    by_cases c : x ∈ runs t
    · simp [c, splitL_mem]
    · simp [c]
  · have : delD f id i = f i := by simp [delD, e]
    simp [hwD, this, e]
theorem tlK_put (f : DocF) {id : Int} (h1 : 1 ≤ id) (h2 : id ≤ 9) (g : Int) (t : ByteArray) (h : f id = none) : tlK (putD f id g t) = addT (tlK f) g (splitL t) := by
  funext k
  simp only [tlK, addT]
  rw [countP_split nine_nodup (mem_nine h1 h2) (p := fun i => has (putD f id g t) k.1 i && hwD (putD f id g t) k.2 i), countP_split nine_nodup (mem_nine h1 h2) (p := fun i => has f k.1 i && hwD f k.2 i)]
  rw [off_congr (p := fun i => has (putD f id g t) k.1 i && hwD (putD f id g t) k.2 i) (q := fun i => has f k.1 i && hwD f k.2 i) (fun i hi => by simp [has, hwD, putD, hi])]
  have e1 : putD f id g t id = some (g, t) := by simp [putD]
  rw [hwD_some e1, hwD_none h, has_of e1]
  by_cases c1 : k.1 = g
  · by_cases c2 : k.2 ∈ runs t
    · simp [c1, c2, splitL_mem]
    · simp [c1, c2, splitL_mem]
  · simp [c1]
theorem tlK_del {f : DocF} {id g : Int} {t : ByteArray} (h1 : 1 ≤ id) (h2 : id ≤ 9) (h : f id = some (g, t)) : tlK (delD f id) = delT (tlK f) g (splitL t) := by
  funext k
  simp only [tlK, delT]
  rw [countP_split nine_nodup (mem_nine h1 h2) (p := fun i => has (delD f id) k.1 i && hwD (delD f id) k.2 i), countP_split nine_nodup (mem_nine h1 h2) (p := fun i => has f k.1 i && hwD f k.2 i)]
  rw [off_congr (p := fun i => has (delD f id) k.1 i && hwD (delD f id) k.2 i) (q := fun i => has f k.1 i && hwD f k.2 i) (fun i hi => by simp [has, hwD, delD, hi])]
  have e1 : delD f id id = none := by simp [delD]
  rw [hwD_none e1, hwD_some h, has_of h]
  by_cases c1 : k.1 = g
  · by_cases c2 : k.2 ∈ runs t
    · simp [c1, c2, splitL_mem]
    · simp [c1, c2, splitL_mem]
  · simp [c1]
theorem tlK_pos {f : DocF} {id g : Int} {t : ByteArray} (h1 : 1 ≤ id) (h2 : id ≤ 9) (h : f id = some (g, t)) {y : ByteArray} (hy : y ∈ runs t) : 1 ≤ tlK f (g, y) := by
  unfold tlK
  rw [countP_split nine_nodup (mem_nine h1 h2) (p := fun i => has f (g, y).1 i && hwD f (g, y).2 i)]
  simp only [hwD_some h, has_of h]
  simp [hy]
theorem tlK_le (f : DocF) (k : Int × ByteArray) : tlK f k ≤ 9 := List.countP_le_length
theorem put_del (f : DocF) (id g : Int) (t : ByteArray) : putD (delD f id) id g t = putD f id g t := by
  funext i
  unfold putD delD
  split <;> rfl
theorem hwD_sup {f : DocF} (h : OkF f) (x : ByteArray) (i : Int) (hd : hwD f x i = true) : 1 ≤ i ∧ i ≤ 9 := by
  obtain e | ⟨d, e⟩ := opt (f i)
  · rw [hwD_none e] at hd; cases hd
  · have := h.rng i d e; exact ⟨this.1, this.2.1⟩
theorem hwD_no : hwD noD = fun _ _ => false := by funext x i; simp [hwD, noD]
theorem fq_no (x : ByteArray) : fq (hwD noD) x = 0 := by rw [hwD_no]; unfold fq; rw [List.countP_eq_zero]; intro i _; simp
theorem tlK_no (k : Int × ByteArray) : tlK noD k = 0 := by unfold tlK; rw [List.countP_eq_zero]; intro i _; simp [has, noD]

theorem SR.within {w : World} {F : Nat → Prop} {bS : Nat} {f : DocF} {r : Int → Nat} (h : SR w F bS f r) : SR w (fun i => F i ∧ i < w.heap.size) bS f r := by
  obtain ⟨bd, br, bg, p, n, m, q, h⟩ := h
  refine ⟨bd, br, bg, p, n, m, q, { h with pF := fun k hk => ⟨h.pF k hk, ?_⟩, fS := ⟨h.fS, h.s0.lt⟩, fd := ⟨h.fd, h.md.lt⟩, fr := ⟨h.fr, h.mr.lt⟩, fg := ⟨h.fg, h.mg.lt⟩ }⟩
  obtain e | ⟨d, e⟩ := opt (f k)
  · rw [e] at hk; cases hk
  · exact (h.docs k d e).c0.lt

/-- The index lies in the blocks of F: its own cells bX, its maps, its sets, and the store's blocks FS. -/
structure XC (w : World) (F : Nat → Prop) (bX : Nat) (f : DocF) (r : Int → Nat) (bS bi bb : Nat) (q : ByteArray → Nat) (FS : Nat → Prop) : Prop where
  x0 : At w bX 0 (.pointer (some ⟨bS, 0, none⟩))
  x1 : At w bX 1 (.map (some bi))
  x2 : At w bX 2 (.map (some bb))
  st : SR w FS bS f r
  xi : XI w bi bb q (hwD f) (tlK f)
  fs : ∀ i, FS i → F i ∧ i < w.heap.size
  fx : F bX
  fi : ∀ i, XS bi bb q (hwD f) i → F i
  ap : ∀ i, FS i → i ≠ bX ∧ ¬ XS bi bb q (hwD f) i
def XR (bS : Nat) (w : World) (F : Nat → Prop) (bX : Nat) (f : DocF) (r : Int → Nat) : Prop := ∃ bi bb q FS, XC w F bX f r bS bi bb q FS
section
variable {w w' : World} {F G : Nat → Prop} {bX : Nat} {f : DocF} {r : Int → Nat} {bS bi bb : Nat} {q : ByteArray → Nat} {FS : Nat → Prop}
theorem XC.nx (h : XC w F bX f r bS bi bb q FS) : ¬ XS bi bb q (hwD f) bX := by
  rintro (c | c | ⟨y, hy, c⟩)
  · obtain ⟨n, m⟩ := h.xi.inv; exact (m.ne_at h.x1) c.symm
  · obtain ⟨n, m⟩ := h.xi.tal; exact (m.ne_at h.x1) c.symm
  · exact ((h.xi.set y hy).ne_at h.x1) c.symm
theorem XC.frw (h : XC w F bX f r bS bi bb q FS) {S : Nat → Prop} (hf : Fr S w w') (hn : ∀ i, F i → ¬ S i) : XC w' F bX f r bS bi bb q FS :=
  ⟨h.x0.fr hf (hn _ h.fx), h.x1.fr hf (hn _ h.fx), h.x2.fr hf (hn _ h.fx), h.st.frw hf (fun i hi => hn i (h.fs i hi).1), h.xi.fr hf (fun i hi => hn i (h.fi i hi)), fun i hi => ⟨(h.fs i hi).1, Nat.lt_of_lt_of_le (h.fs i hi).2 hf.size⟩, h.fx, h.fi, h.ap⟩
theorem XR.frw (h : XR bS w F bX f r) {S : Nat → Prop} (hf : Fr S w w') (hn : ∀ i, F i → ¬ S i) : XR bS w' F bX f r := by
  obtain ⟨bi, bb, q, FS, h⟩ := h
  exact ⟨bi, bb, q, FS, h.frw hf hn⟩
theorem XR.wide (h : XR bS w F bX f r) (hn : ∀ i, F i → G i) : XR bS w G bX f r := by
  obtain ⟨bi, bb, q, FS, h⟩ := h
  exact ⟨bi, bb, q, FS, { h with fs := fun i hi => ⟨hn i (h.fs i hi).1, (h.fs i hi).2⟩, fx := hn _ h.fx, fi := fun i hi => hn i (h.fi i hi) }⟩
theorem XR.bound (h : XR bS w F bX f r) : XR bS w (fun i => F i ∧ i < w.heap.size) bX f r := by
  obtain ⟨bi, bb, q, FS, h⟩ := h
  exact ⟨bi, bb, q, FS, { h with fs := fun i hi => ⟨⟨(h.fs i hi).1, (h.fs i hi).2⟩, (h.fs i hi).2⟩, fx := ⟨h.fx, h.x0.lt⟩, fi := fun i hi => ⟨h.fi i hi, h.xi.lt i hi⟩ }⟩
theorem XR.ok (h : XR bS w F bX f r) : OkF f := by
  obtain ⟨bi, bb, q, FS, h⟩ := h
  exact h.st.ok
theorem XR.lt (h : XR bS w F bX f r) : bX < w.heap.size := by
  obtain ⟨bi, bb, q, FS, h⟩ := h
  exact h.x0.lt
end

/-! ### The plain answers -/
def docsOf (f : DocF) (x : ByteArray) : List Int := if 12 < x.size then [] else nine.filter (hwD f x)
def frq (f : DocF) (x : ByteArray) : Nat := if 12 < x.size then 0 else fq (hwD f) x
def tal (f : DocF) (g : Int) (x : ByteArray) : Nat := if 12 < x.size then 0 else tlK f (g, x)
theorem docsOf_len (f : DocF) (x : ByteArray) : (docsOf f x).length = frq f x := by
  unfold docsOf frq fq
  split
  · rfl
  · rw [List.countP_eq_length_filter]

end Go.Proofs.Qxb6500450aGreat
