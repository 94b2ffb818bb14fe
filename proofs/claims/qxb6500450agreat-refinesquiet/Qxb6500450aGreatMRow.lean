/- The model's rows: made, cut, appended. -/
import Derived.Test.Qxb6500450aGreatMShow
namespace Go.Proofs.Qxb6500450aGreat
open Go Go.RowKit
set_option maxRecDepth 100000
set_option maxHeartbeats 1600000
set_option linter.unusedSimpArgs false
set_option linter.unusedVariables false

theorem infoDoc : (Tryz.prog.info? 112).map (fun i => (i.zero, i.size, i.bytes)) = some (some (.agg #[.int .i64 0, .int .i64 0, .string ⟨#[]⟩]), 3, 32) := by kernel_rfl
theorem uSliceDoc : Tryz.prog.underlying 107 = some (.slice 112) := by kernel_rfl

/-- make([]Doc, 0, c). -/
theorem make_docs (w : World) (c : Nat) (hc : c ≤ 1000) : ∃ w', (Instr.makeSlice 107 (.int .i64 0) (.int .i64 (c : Int))).run Tryz.prog w = .ok (.slice (some ⟨w.heap.size, 0, none⟩) 0 c) w' ∧ OwnD w' w.heap.size (.slice (some ⟨w.heap.size, 0, none⟩) 0 c) [] ∧ Fr (fun _ => False) w w' := by
  obtain ⟨i0, hi, hz0, hz1, hz2⟩ := info_parts infoDoc
  obtain ⟨w', h1, h2, h3⟩ := run_make_own (P := Tryz.prog) w w.heap.size 107 112 i0 _ 3 uSliceDoc hi hz0 hz1 .i64 .i64 c (by rw [hz2]; omega) (by unfold maxLen; omega) (Nat.le_refl _)
  exact ⟨w', h1, h2, (Fr.of_grown h3).mono (fun _ _ h => by cases h)⟩

/-- append(next, part...): there is room. -/
theorem app_docs {w : World} {base g n cap : Nat} {l : List D3} (h : OwnD w base (.slice (some ⟨g, 0, none⟩) n cap) l) (hn : n = l.length) {b off c : Nat} {m : List D3} (hm : ∀ j u, (cells3 m)[j]? = some u → w.cell? ⟨b, off + j, none⟩ = some u) (hroom : n + m.length ≤ cap) (ty : TypeId) :
    ∃ w', (Builtin.append_ #[107, 107] ty #[.slice (some ⟨g, 0, none⟩) n cap, .slice (some ⟨b, off, none⟩) m.length c]).run Tryz.prog w = .ok (.slice (some ⟨g, 0, none⟩) (n + m.length) cap) w' ∧ OwnD w' base (.slice (some ⟨g, 0, none⟩) (n + m.length) cap) (l ++ m) ∧ Fr (fun i => i = g) w w' := by
  subst hn
  obtain ⟨i0, hi, hz0, hz1, hz2⟩ := info_parts infoDoc
  obtain ⟨w', h1, h2, h3⟩ := run_append_fits (P := Tryz.prog) w base 107 ty 112 i0 3 uSliceDoc hi hz1 g l.length cap (cells3 l) h ⟨b, off, none⟩ m.length c (cells3 m) (cells3_len m) (fun j u hj => by rw [add_addr]; exact hm j u hj) (cells3_one m) hroom
  refine ⟨w', h1, ?_, (Fr.of_grown h3).mono (fun i _ h => by simpa using h.symm)⟩
  unfold OwnD
  rw [List.length_append, cells3_append]
  exact h2

theorem app_none {w : World} {base g n cap : Nat} {l : List D3} (h : OwnD w base (.slice (some ⟨g, 0, none⟩) n cap) l) (ty : TypeId) (hn : n = l.length) :
    (Builtin.append_ #[107, 107] ty #[.slice (some ⟨g, 0, none⟩) n cap, .slice none 0 0]).run Tryz.prog w = .ok (.slice (some ⟨g, 0, none⟩) n cap) w := by
  subst hn
  obtain ⟨i0, hi, hz0, hz1, hz2⟩ := info_parts infoDoc
  exact run_append_owned_none (P := Tryz.prog) w base 107 ty 112 i0 3 uSliceDoc hi _ l.length (cells3 l) h

/-- The cells of a part of a row. -/
theorem OwnD.part {w : World} {base g cap n : Nat} {l A m B : List D3} (h : OwnD w base (.slice (some ⟨g, 0, none⟩) n cap) l) (hn : n = l.length) (hl : l = A ++ (m ++ B)) {off : Nat} (ho : off = A.length * 3) : ∀ j u, (cells3 m)[j]? = some u → w.cell? ⟨g, off + j, none⟩ = some u := by
  subst hn
  subst ho
  intro j u hj
  have hjl : j < (cells3 m).length := by
    rcases Nat.lt_or_ge j (cells3 m).length with h' | h'
    · exact h'
    · rw [List.getElem?_eq_none h'] at hj; cases hj
  rw [cells3_len] at hjl
  have hlen : l.length = A.length + (m.length + B.length) := by rw [hl]; simp
  rw [World.ownsRow.cellAt h _ (by omega), hl, cells3_append, cells3_append, List.getElem?_append_right (by rw [cells3_len]; omega), cells3_len, Nat.add_sub_cancel_left, List.getElem?_append_left (by rw [cells3_len]; omega)]
  exact hj

theorem OwnD.zero {w : World} {base : Nat} {v : Value} {l : List D3} (h : OwnD w base v l) : OwnD w 0 v l := by
  refine ⟨h.1, ?_⟩
  rcases h.2 with h' | ⟨g, cap, cur, h1, h2, h3⟩
  · exact .inl h'
  · exact .inr ⟨g, cap, cur, h1, Nat.zero_le _, h3⟩

theorem OwnD.room {w : World} {base : Nat} {a : Option Addr} {n cap : Nat} {l : List D3} (h : OwnD w base (.slice a n cap) l) : n ≤ cap := by
  rcases h.2 with ⟨h', _⟩ | ⟨g', cap', cur, h', _, _, hnc, _⟩
  · cases h'; omega
  · cases h'; omega

/-- The documents m lie from xa on. -/
def PartAt (w : World) (xa : Option Addr) (c : Nat) (m : List D3) : Prop :=
  (xa = none ∧ m = [] ∧ c = 0) ∨ ∃ b off, xa = some ⟨b, off, none⟩ ∧ b < w.heap.size ∧ ∀ j u, (cells3 m)[j]? = some u → w.cell? ⟨b, off + j, none⟩ = some u

theorem PartAt.fr {w w' : World} {xa : Option Addr} {c : Nat} {m : List D3} (h : PartAt w xa c m) {S : Nat → Prop} (hf : Fr S w w') (hn : ∀ p, xa = some p → ¬ S p.block) : PartAt w' xa c m := by
  rcases h with h | ⟨b, off, rfl, hb, hc⟩
  · exact .inl h
  · refine .inr ⟨b, off, rfl, Nat.lt_of_lt_of_le hb hf.size, fun j u hj => ?_⟩
    rw [hf.cell (p := ⟨b, off + j, none⟩) hb (hn ⟨b, off, none⟩ rfl)]
    exact hc j u hj

theorem uSliceDoc' : Tryz.prog.underlying 107 = some (.slice (Tryz.prog.elem 107)) := by kernel_rfl
theorem szDoc (w : World) : (sizeOf (Tryz.prog.elem 107)).run Tryz.prog w = .ok 3 w := by kernel_rfl

/-- v[:i]. -/
theorem OwnD.cutH {w : World} {base : Nat} {v : Value} {A B : List D3} (h : OwnD w base v (A ++ B)) :
    ∃ xa c, (Instr.slice 107 v none (some (.int .i64 (A.length : Int))) none).run Tryz.prog w = .ok (.slice xa A.length c) w ∧ PartAt w xa c A ∧ ∀ p, xa = some p → v.ownBlock = some p.block := by
  obtain ⟨a, cap, rfl, ha⟩ := h.slice
  have hr := h.room
  rw [List.length_append] at hr
  refine ⟨a, cap, ?_, ?_, ?_⟩
  · rw [run_slice_h w _ a _ cap uSliceDoc' .i64 (A.length : Int) (by omega) (by omega), szDoc]
    simp [sliced, Result.andThen]
    rintro _ 
    cases a <;> simp [Addr.add]
  · rcases h.empty with ⟨e, e'⟩ | ⟨g, cap', e, hb, hg⟩
    · simp only [Value.slice.injEq] at e
      obtain ⟨rfl, _, rfl⟩ := e
      exact .inl ⟨rfl, (List.append_eq_nil_iff.1 e').1, rfl⟩
    · cases e
      exact .inr ⟨g, 0, rfl, hg, h.part rfl (A := []) (m := A) (B := B) rfl rfl⟩
  · rintro p rfl
    rcases h.empty with ⟨e, e'⟩ | ⟨g, cap', e, hb, hg⟩
    · cases e
    · cases e; rfl

/-- v[i:]. -/
theorem OwnD.cutL {w : World} {base : Nat} {v : Value} {A B : List D3} (h : OwnD w base v (A ++ B)) :
    ∃ xa c, (Instr.slice 107 v (some (.int .i64 (A.length : Int))) none none).run Tryz.prog w = .ok (.slice xa B.length c) w ∧ PartAt w xa c B ∧ ∀ p, xa = some p → v.ownBlock = some p.block := by
  obtain ⟨a, cap, rfl, ha⟩ := h.slice
  have hr := h.room
  rw [List.length_append] at hr
  have hrun : (Instr.slice 107 (.slice a (A ++ B).length cap) (some (.int .i64 (A.length : Int))) none none).run Tryz.prog w = .ok (sliced a A.length (A ++ B).length cap 3) w := by
    rw [run_slice_l w _ a _ cap uSliceDoc' .i64 (A.length : Int) (by omega) (by rw [List.length_append]; omega), szDoc]
    simp [Result.andThen]
  rw [hrun]
  have hlen : (A ++ B).length - A.length = B.length := by simp
  rcases h.empty with ⟨e, e'⟩ | ⟨g, cap', e, hb, hg⟩
  · simp only [Value.slice.injEq] at e
    obtain ⟨rfl, _, rfl⟩ := e
    obtain ⟨rfl, rfl⟩ := List.append_eq_nil_iff.1 e'
    exact ⟨none, 0, by simp [sliced], .inl ⟨rfl, rfl, rfl⟩, fun p hp => by cases hp⟩
  · cases e
    by_cases hc : cap = A.length
    · have hB : B = [] := List.eq_nil_of_length_eq_zero (by omega)
      subst hB
      refine ⟨some ⟨g, 0, none⟩, cap - A.length, ?_, .inr ⟨g, 0, rfl, hg, fun j u hj => by simp [cells3] at hj⟩, fun p hp => by cases hp; rfl⟩
      simp [sliced, hc]
    · refine ⟨some ⟨g, A.length * 3, none⟩, cap - A.length, ?_, .inr ⟨g, A.length * 3, rfl, hg, h.part rfl (A := A) (m := B) (B := []) (by simp) rfl⟩, fun p hp => by cases hp; rfl⟩
      simp [sliced, hc, add_addr]

section laws
variable {w : World} {ops : Array Oper} {rest : List Oper} {o : Oper} {a : Act} {Q : Exit → Act → World → Prop}

theorem wp_cutH (hgd : o.guard = none) {x y : Operand} (ho : o.op = .slice 107 x none (some y) none) {base : Nat} {v : Value} {l A B : List D3} (hown : OwnD w base v l) (hl : l = A ++ B) (hx : a.eval x = v) {i : Int} (hy : a.eval y = .int .i64 i) (hi : i = (A.length : Int))
    (h : ∀ xa c, PartAt w xa c A → (∀ p, xa = some p → v.ownBlock = some p.block) → wpList Tryz.prog ops Q rest (a.put o.dst (.slice xa A.length c)) w) : wpList Tryz.prog ops Q (o :: rest) a w := by
  subst hl hi
  refine wpList_plain hgd fun K' hK' => ?_
  obtain ⟨xa, c, hrun, h1, h2⟩ := hown.cutH
  have hrun' := (run_sliceAt_slice (P := Tryz.prog) w 107 v none (some (.int .i64 (A.length : Int))) none uSliceDoc').trans hrun
  unfold Oper.wp
  simp [execOp, ho, hx, hy, hrun', Result.andThen]
  exact hK' _ _ (h xa c h1 h2)

theorem wp_cutL (hgd : o.guard = none) {x y : Operand} (ho : o.op = .slice 107 x (some y) none none) {base : Nat} {v : Value} {l A B : List D3} (hown : OwnD w base v l) (hl : l = A ++ B) (hx : a.eval x = v) {i : Int} (hy : a.eval y = .int .i64 i) (hi : i = (A.length : Int))
    (h : ∀ xa c, PartAt w xa c B → (∀ p, xa = some p → v.ownBlock = some p.block) → wpList Tryz.prog ops Q rest (a.put o.dst (.slice xa B.length c)) w) : wpList Tryz.prog ops Q (o :: rest) a w := by
  subst hl hi
  refine wpList_plain hgd fun K' hK' => ?_
  obtain ⟨xa, c, hrun, h1, h2⟩ := hown.cutL
  have hrun' := (run_sliceAt_slice (P := Tryz.prog) w 107 v (some (.int .i64 (A.length : Int))) none none uSliceDoc').trans hrun
  unfold Oper.wp
  simp [execOp, ho, hx, hy, hrun', Result.andThen]
  exact hK' _ _ (h xa c h1 h2)

/-- append(next, part...), where there is room. -/
theorem wp_appD (hgd : o.guard = none) {s x : Operand} (ho : o.op = .call { callee := .builtin .append, args := #[s, x], argTypes := #[107, 107] }) {base g n cap : Nat} {l : List D3} (hown : OwnD w base (.slice (some ⟨g, 0, none⟩) n cap) l) (hn : n = l.length) (hs : a.eval s = .slice (some ⟨g, 0, none⟩) n cap)
    {xa : Option Addr} {k c : Nat} {m : List D3} (hm : PartAt w xa c m) (hx : a.eval x = .slice xa k c) (hk : k = m.length) (hroom : n + m.length ≤ cap) {q : Nat} (hq : q = n + m.length)
    (h : ∀ w', OwnD w' base (.slice (some ⟨g, 0, none⟩) q cap) (l ++ m) → Fr (fun i => i = g) w w' → wpList Tryz.prog ops Q rest (a.put o.dst (.slice (some ⟨g, 0, none⟩) q cap)) w') :
    wpList Tryz.prog ops Q (o :: rest) a w := by
  subst hk hq
  refine wpList_plain hgd fun K' hK' => ?_
  rcases hm with ⟨rfl, rfl, rfl⟩ | ⟨b, off, rfl, hb, hcl⟩
  · have hrun := app_none hown o.type hn
    have hh := h w (by simpa using hown) (Fr.refl _ _)
    simp only [List.length_nil, Nat.add_zero] at hh hx
    unfold Oper.wp
    simp [execOp, ho, resolve, invoke, builtin, hs, hx, hrun, Result.andThen]
    exact hK' _ _ hh
  · obtain ⟨w', hrun, r1, r2⟩ := app_docs hown hn (c := c) hcl hroom o.type
    unfold Oper.wp
    simp [execOp, ho, resolve, invoke, builtin, hs, hx, hrun, Result.andThen]
    exact hK' _ _ (h w' r1 r2)

/-- append(keep, one document). -/
theorem wp_appG (hgd : o.guard = none) {s x : Operand} (ho : o.op = .call { callee := .builtin .append, args := #[s, x], argTypes := #[107, 107] }) {base : Nat} {v : Value} {l : List D3} (hs : a.eval s = v) (hown : OwnD w base v l)
    {B c : Nat} (hx : a.eval x = .slice (some ⟨B, 0, none⟩) 1 c) {y : D3} (h0 : w.cell? ⟨B, 0, none⟩ = some (.int .i64 y.1)) (h1 : w.cell? ⟨B, 1, none⟩ = some (.int .i64 y.2.1)) (h2 : w.cell? ⟨B, 2, none⟩ = some (.string y.2.2)) (hlen : l.length ≤ 1000000) (hbase : base ≤ w.heap.size)
    (h : ∀ g cap w', OwnD w' base (.slice (some ⟨g, 0, none⟩) (l.length + 1) cap) (l ++ [y]) → Fr (fun i => v.ownBlock = some i) w w' → (v.ownBlock = some g ∨ g = w.heap.size) → g < w'.heap.size → wpList Tryz.prog ops Q rest (a.put o.dst (.slice (some ⟨g, 0, none⟩) (l.length + 1) cap)) w') :
    wpList Tryz.prog ops Q (o :: rest) a w := by
  obtain ⟨i0, hi, hz0, hz1, hz2⟩ := info_parts infoDoc
  refine wpList_append_lies w hgd s x 107 ho base 112 i0 (.agg #[.int .i64 0, .int .i64 0, .string ⟨#[]⟩]) 3 32 uSliceDoc hi hz0 hz1 hz2 rfl (by decide) v l.length (cells3 l) hs hown ⟨B, 0, none⟩ 1 c [.int .i64 y.1, .int .i64 y.2.1, .string y.2.2] hx rfl ?_ ?_ (by decide) (by unfold maxLen; omega) (by omega) hbase w.heap.size rfl ?_
  · intro j u hj
    rw [add_addr]
    match j, hj with
    | 0, hj => simp at hj; subst hj; exact h0
    | 1, hj => simp at hj; subst hj; exact h1
    | 2, hj => simp at hj; subst hj; exact h2
    | j + 3, hj => simp at hj
  · intro u hu
    simp at hu
    rcases hu with rfl | rfl | rfl <;> rfl
  · intro g cap w' r1 r2 r3 r4
    refine h g cap w' ?_ (Fr.of_grown r2) r3 r4
    unfold OwnD
    rw [List.length_append, cells3_append]
    exact r1

end laws

theorem cells3_set : ∀ (l : List D3) (j : Nat) (d : D3), cells3 (l.set j d) = (((cells3 l).set (j * 3) (.int .i64 d.1)).set (j * 3 + 1) (.int .i64 d.2.1)).set (j * 3 + 2) (.string d.2.2)
  | [], j, d => by simp [cells3]
  | x :: l, 0, d => rfl
  | x :: l, j + 1, d => by
    have h := cells3_set l j d
    have e : (j + 1) * 3 = j * 3 + 1 + 1 + 1 := by omega
    simp only [List.set_cons_succ, cells3, e, h]

/-- A document is stored in its place. -/
theorem OwnD.set {w : World} {base g cap n : Nat} {l : List D3} (h : OwnD w base (.slice (some ⟨g, 0, none⟩) n cap) l) (hn : n = l.length) (j : Nat) (d : D3) :
    OwnD (((w.setCell ⟨g, j * 3, none⟩ (.int .i64 d.1)).setCell ⟨g, j * 3 + 1, none⟩ (.int .i64 d.2.1)).setCell ⟨g, j * 3 + 2, none⟩ (.string d.2.2)) base (.slice (some ⟨g, 0, none⟩) n cap) (l.set j d) := by
  subst hn
  have h1 := (World.ownsRow.stored h (j * 3) (.int .i64 d.1)).1
  have h2 := (World.ownsRow.stored h1 (j * 3 + 1) (.int .i64 d.2.1)).1
  have h3 := (World.ownsRow.stored h2 (j * 3 + 2) (.string d.2.2)).1
  unfold OwnD
  rw [List.length_set, cells3_set]
  exact h3

end Go.Proofs.Qxb6500450aGreat
