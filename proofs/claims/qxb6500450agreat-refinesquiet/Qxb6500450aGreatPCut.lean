/- Rows of strings: made, cut, appended. -/
import Derived.Test.Qxb6500450aGreatIShow
namespace Go.Proofs.Qxb6500450aGreat
open Go Go.RowKit
set_option maxRecDepth 100000
set_option maxHeartbeats 1600000
set_option linter.unusedSimpArgs false
set_option linter.unusedVariables false

theorem mapsk_one (l : List ByteArray) : ∀ u ∈ l.map sk, u.oneCell' = true := by
  intro u hu
  obtain ⟨x, _, rfl⟩ := List.mem_map.1 hu
  rfl

/-- make([]string, 0, c). -/
theorem make_strs (w : World) (c : Nat) (hc : c ≤ 1000) : ∃ w', (Instr.makeSlice 67 (.int .i64 0) (.int .i64 (c : Int))).run Tryz.prog w = .ok (.slice (some ⟨w.heap.size, 0, none⟩) 0 c) w' ∧ OwnS w' w.heap.size (.slice (some ⟨w.heap.size, 0, none⟩) 0 c) [] ∧ Fr (fun _ => False) w w' := by
  obtain ⟨i0, hi, hz0, hz1, hz2⟩ := info_parts infoStr
  obtain ⟨w', h1, h2, h3⟩ := run_make_own (P := Tryz.prog) w w.heap.size 67 9 i0 _ 1 uSliceStr hi hz0 hz1 .i64 .i64 c (by rw [hz2]; omega) (by unfold maxLen; omega) (Nat.le_refl _)
  exact ⟨w', h1, h2, (Fr.of_grown h3).mono (fun _ _ h => by cases h)⟩

/-- append(out, part...): there is room. -/
theorem app_strs {w : World} {base g n cap : Nat} {l : List ByteArray} (h : OwnS w base (.slice (some ⟨g, 0, none⟩) n cap) l) (hn : n = l.length) {b off c : Nat} {m : List ByteArray} (hm : ∀ j u, (m.map sk)[j]? = some u → w.cell? ⟨b, off + j, none⟩ = some u) (hroom : n + m.length ≤ cap) (ty : TypeId) :
    ∃ w', (Builtin.append_ #[67, 67] ty #[.slice (some ⟨g, 0, none⟩) n cap, .slice (some ⟨b, off, none⟩) m.length c]).run Tryz.prog w = .ok (.slice (some ⟨g, 0, none⟩) (n + m.length) cap) w' ∧ OwnS w' base (.slice (some ⟨g, 0, none⟩) (n + m.length) cap) (l ++ m) ∧ Fr (fun i => i = g) w w' := by
  subst hn
  obtain ⟨i0, hi, hz0, hz1, hz2⟩ := info_parts infoStr
  obtain ⟨w', h1, h2, h3⟩ := run_append_fits (P := Tryz.prog) w base 67 ty 9 i0 1 uSliceStr hi hz1 g l.length cap (l.map sk) h ⟨b, off, none⟩ m.length c (m.map sk) (by simp) (fun j u hj => by rw [add_addr]; exact hm j u hj) (mapsk_one m) hroom
  refine ⟨w', h1, ?_, (Fr.of_grown h3).mono (fun i _ h => by simpa using h.symm)⟩
  unfold OwnS
  rw [List.length_append, List.map_append]
  exact h2

theorem appS_none {w : World} {base g n cap : Nat} {l : List ByteArray} (h : OwnS w base (.slice (some ⟨g, 0, none⟩) n cap) l) (ty : TypeId) (hn : n = l.length) :
    (Builtin.append_ #[67, 67] ty #[.slice (some ⟨g, 0, none⟩) n cap, .slice none 0 0]).run Tryz.prog w = .ok (.slice (some ⟨g, 0, none⟩) n cap) w := by
  subst hn
  obtain ⟨i0, hi, hz0, hz1, hz2⟩ := info_parts infoStr
  exact run_append_owned_none (P := Tryz.prog) w base 67 ty 9 i0 1 uSliceStr hi _ l.length (l.map sk) h

/-- The cells of a part of a row. -/
theorem OwnS.part {w : World} {base g cap n : Nat} {l A m B : List ByteArray} (h : OwnS w base (.slice (some ⟨g, 0, none⟩) n cap) l) (hn : n = l.length) (hl : l = A ++ (m ++ B)) {off : Nat} (ho : off = A.length) : ∀ j u, (m.map sk)[j]? = some u → w.cell? ⟨g, off + j, none⟩ = some u := by
  subst hn
  subst ho
  intro j u hj
  have hjl : j < (m.map sk).length := by
    rcases Nat.lt_or_ge j (m.map sk).length with h' | h'
    · exact h'
    · rw [List.getElem?_eq_none h'] at hj; cases hj
  rw [List.length_map] at hjl
  have hlen : l.length = A.length + (m.length + B.length) := by rw [hl]; simp
  rw [World.ownsRow.cellAt h _ (by omega), hl, List.map_append, List.map_append, List.getElem?_append_right (by rw [List.length_map]; omega), List.length_map, Nat.add_sub_cancel_left, List.getElem?_append_left (by rw [List.length_map]; omega)]
  exact hj

theorem OwnS.room {w : World} {base : Nat} {a : Option Addr} {n cap : Nat} {l : List ByteArray} (h : OwnS w base (.slice a n cap) l) : n ≤ cap := by
  rcases h.2 with ⟨h', _⟩ | ⟨g', cap', cur, h', _, _, hnc, _⟩
  · cases h'; omega
  · cases h'; omega

/-- The strings m lie from xa on. -/
def PartS (w : World) (xa : Option Addr) (c : Nat) (m : List ByteArray) : Prop :=
  (xa = none ∧ m = [] ∧ c = 0) ∨ ∃ b off, xa = some ⟨b, off, none⟩ ∧ b < w.heap.size ∧ ∀ j u, (m.map sk)[j]? = some u → w.cell? ⟨b, off + j, none⟩ = some u

theorem PartS.fr {w w' : World} {xa : Option Addr} {c : Nat} {m : List ByteArray} (h : PartS w xa c m) {S : Nat → Prop} (hf : Fr S w w') (hn : ∀ p, xa = some p → ¬ S p.block) : PartS w' xa c m := by
  rcases h with h | ⟨b, off, rfl, hb, hc⟩
  · exact .inl h
  · refine .inr ⟨b, off, rfl, Nat.lt_of_lt_of_le hb hf.size, fun j u hj => ?_⟩
    rw [hf.cell (p := ⟨b, off + j, none⟩) hb (hn ⟨b, off, none⟩ rfl)]
    exact hc j u hj

theorem PartS.one (w : World) (d : ByteArray) (t : TypeId) (c : Nat) : PartS (w.alloc (.cells #[.string d] t)) (some ⟨w.heap.size, 0, none⟩) c [d] := by
  refine .inr ⟨w.heap.size, 0, rfl, by simp, fun j u hj => ?_⟩
  cases j with
  | zero =>
    simp at hj
    subst hj
    exact (At.new w #[.string d] t (o := 0) rfl).c
  | succ j => simp at hj

theorem uSliceStr' : Tryz.prog.underlying 67 = some (.slice (Tryz.prog.elem 67)) := by kernel_rfl
theorem szStr1 (w : World) : (sizeOf (Tryz.prog.elem 67)).run Tryz.prog w = .ok 1 w := by kernel_rfl

/-- v[:i]. -/
theorem OwnS.cutH {w : World} {base : Nat} {v : Value} {A B : List ByteArray} (h : OwnS w base v (A ++ B)) :
    ∃ xa c, (Instr.slice 67 v none (some (.int .i64 (A.length : Int))) none).run Tryz.prog w = .ok (.slice xa A.length c) w ∧ PartS w xa c A ∧ ∀ p, xa = some p → v.ownBlock = some p.block := by
  obtain ⟨a, cap, rfl⟩ := h.form
  have hr := h.room
  rw [List.length_append] at hr
  refine ⟨a, cap, ?_, ?_, ?_⟩
  · rw [run_slice_h w _ a _ cap uSliceStr' .i64 (A.length : Int) (by omega) (by omega), szStr1]
    simp [sliced, Result.andThen]
    rintro _ 
    cases a <;> simp [Addr.add]
  · rcases h.empty with ⟨e, e'⟩ | ⟨g, cap', e, hb, hg⟩
    · simp only [Value.slice.injEq] at e
      obtain ⟨rfl, _, rfl⟩ := e
      exact .inl ⟨rfl, (List.append_eq_nil_iff.1 e').1, rfl⟩
    · cases e
      exact .inr ⟨g, 0, rfl, hg, h.part rfl (A := []) (m := A) (B := B) rfl rfl⟩
  · rintro p rfl
    rcases h.empty with ⟨e, e'⟩ | ⟨g, cap', e, hb, hg⟩
    · cases e
    · cases e; rfl

/-- v[i:]. -/
theorem OwnS.cutL {w : World} {base : Nat} {v : Value} {A B : List ByteArray} (h : OwnS w base v (A ++ B)) :
    ∃ xa c, (Instr.slice 67 v (some (.int .i64 (A.length : Int))) none none).run Tryz.prog w = .ok (.slice xa B.length c) w ∧ PartS w xa c B ∧ ∀ p, xa = some p → v.ownBlock = some p.block := by
  obtain ⟨a, cap, rfl⟩ := h.form
  have hr := h.room
  rw [List.length_append] at hr
  have hrun : (Instr.slice 67 (.slice a (A ++ B).length cap) (some (.int .i64 (A.length : Int))) none none).run Tryz.prog w = .ok (sliced a A.length (A ++ B).length cap 1) w := by
    rw [run_slice_l w _ a _ cap uSliceStr' .i64 (A.length : Int) (by omega) (by rw [List.length_append]; omega), szStr1]
    simp [Result.andThen]
  rw [hrun]
  have hlen : (A ++ B).length - A.length = B.length := by simp
  rcases h.empty with ⟨e, e'⟩ | ⟨g, cap', e, hb, hg⟩
  · simp only [Value.slice.injEq] at e
    obtain ⟨rfl, _, rfl⟩ := e
    obtain ⟨rfl, rfl⟩ := List.append_eq_nil_iff.1 e'
    exact ⟨none, 0, by simp [sliced], .inl ⟨rfl, rfl, rfl⟩, fun p hp => by cases hp⟩
  · cases e
    by_cases hc : cap = A.length
    · have hB : B = [] := List.eq_nil_of_length_eq_zero (by omega)
      subst hB
      refine ⟨some ⟨g, 0, none⟩, cap - A.length, ?_, .inr ⟨g, 0, rfl, hg, fun j u hj => by simp at hj⟩, fun p hp => by cases hp; rfl⟩
      simp [sliced, hc]
    · refine ⟨some ⟨g, A.length, none⟩, cap - A.length, ?_, .inr ⟨g, A.length, rfl, hg, h.part rfl (A := A) (m := B) (B := []) (by simp) rfl⟩, fun p hp => by cases hp; rfl⟩
      simp [sliced, hc, add_addr]

section laws
variable {w : World} {ops : Array Oper} {rest : List Oper} {o : Oper} {a : Act} {Q : Exit → Act → World → Prop}

theorem wp_cutHS (hgd : o.guard = none) {x y : Operand} (ho : o.op = .slice 67 x none (some y) none) {base : Nat} {v : Value} {l A B : List ByteArray} (hown : OwnS w base v l) (hl : l = A ++ B) (hx : a.eval x = v) {i : Int} (hy : a.eval y = .int .i64 i) (hi : i = (A.length : Int))
    (h : ∀ xa c, PartS w xa c A → (∀ p, xa = some p → v.ownBlock = some p.block) → wpList Tryz.prog ops Q rest (a.put o.dst (.slice xa A.length c)) w) : wpList Tryz.prog ops Q (o :: rest) a w := by
  subst hl hi
  refine wpList_plain hgd fun K' hK' => ?_
  obtain ⟨xa, c, hrun, h1, h2⟩ := hown.cutH
  have hrun' := (run_sliceAt_slice (P := Tryz.prog) w 67 v none (some (.int .i64 (A.length : Int))) none uSliceStr').trans hrun
  unfold Oper.wp
  simp [execOp, ho, hx, hy, hrun', Result.andThen]
  exact hK' _ _ (h xa c h1 h2)

theorem wp_cutLS (hgd : o.guard = none) {x y : Operand} (ho : o.op = .slice 67 x (some y) none none) {base : Nat} {v : Value} {l A B : List ByteArray} (hown : OwnS w base v l) (hl : l = A ++ B) (hx : a.eval x = v) {i : Int} (hy : a.eval y = .int .i64 i) (hi : i = (A.length : Int))
    (h : ∀ xa c, PartS w xa c B → (∀ p, xa = some p → v.ownBlock = some p.block) → wpList Tryz.prog ops Q rest (a.put o.dst (.slice xa B.length c)) w) : wpList Tryz.prog ops Q (o :: rest) a w := by
  subst hl hi
  refine wpList_plain hgd fun K' hK' => ?_
  obtain ⟨xa, c, hrun, h1, h2⟩ := hown.cutL
  have hrun' := (run_sliceAt_slice (P := Tryz.prog) w 67 v (some (.int .i64 (A.length : Int))) none none uSliceStr').trans hrun
  unfold Oper.wp
  simp [execOp, ho, hx, hy, hrun', Result.andThen]
  exact hK' _ _ (h xa c h1 h2)

/-- append(out, part...), where there is room. -/
theorem wp_appT (hgd : o.guard = none) {s x : Operand} (ho : o.op = .call { callee := .builtin .append, args := #[s, x], argTypes := #[67, 67] }) {base g n cap : Nat} {l : List ByteArray} (hown : OwnS w base (.slice (some ⟨g, 0, none⟩) n cap) l) (hn : n = l.length) (hs : a.eval s = .slice (some ⟨g, 0, none⟩) n cap)
    {xa : Option Addr} {k c : Nat} {m : List ByteArray} (hm : PartS w xa c m) (hx : a.eval x = .slice xa k c) (hk : k = m.length) (hroom : n + m.length ≤ cap) {q : Nat} (hq : q = n + m.length)
    (h : ∀ w', OwnS w' base (.slice (some ⟨g, 0, none⟩) q cap) (l ++ m) → Fr (fun i => i = g) w w' → wpList Tryz.prog ops Q rest (a.put o.dst (.slice (some ⟨g, 0, none⟩) q cap)) w') :
    wpList Tryz.prog ops Q (o :: rest) a w := by
  subst hk hq
  refine wpList_plain hgd fun K' hK' => ?_
  rcases hm with ⟨rfl, rfl, rfl⟩ | ⟨b, off, rfl, hb, hcl⟩
  · have hrun := appS_none hown o.type hn
    have hh := h w (by simpa using hown) (Fr.refl _ _)
    simp only [List.length_nil, Nat.add_zero] at hh hx
    unfold Oper.wp
    simp [execOp, ho, resolve, invoke, builtin, hs, hx, hrun, Result.andThen]
    exact hK' _ _ hh
  · obtain ⟨w', hrun, r1, r2⟩ := app_strs hown hn (c := c) hcl hroom o.type
    unfold Oper.wp
    simp [execOp, ho, resolve, invoke, builtin, hs, hx, hrun, Result.andThen]
    exact hK' _ _ (h w' r1 r2)

end laws

end Go.Proofs.Qxb6500450aGreat
