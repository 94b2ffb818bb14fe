/- The gate's decoder: move, moves. -/
import Derived.Test.Qxb6500452aGDec
import Derived.Test.Qxb6500452aWOwn
import Derived.WalkMore
import Derived.ScopeJumps
namespace Go.Proofs.Qxb6500452a
open Go Go.RowKit
set_option maxRecDepth 100000
set_option maxHeartbeats 1600000
set_option linter.unusedSimpArgs false
set_option linter.unusedVariables false

def mvCells : List Mv → List Value
  | [] => []
  | m :: l => .int .i64 m.f :: .int .i64 m.t :: .int .i64 m.a :: mvCells l
theorem mvCells_append : ∀ (l k : List Mv), mvCells (l ++ k) = mvCells l ++ mvCells k
  | [], k => rfl
  | m :: l, k => by simp [mvCells, mvCells_append l k]
theorem mvCells_len : ∀ (l : List Mv), (mvCells l).length = l.length * 3
  | [] => rfl
  | m :: l => by simp [mvCells, mvCells_len l]; omega
theorem mvCells_get : ∀ (l : List Mv) (j : Nat) (hj : j < l.length), (mvCells l)[j * 3]? = some (.int .i64 l[j].f) ∧ (mvCells l)[j * 3 + 1]? = some (.int .i64 l[j].t) ∧ (mvCells l)[j * 3 + 2]? = some (.int .i64 l[j].a)
  | [], j, hj => by simp at hj
  | m :: l, 0, hj => ⟨rfl, rfl, rfl⟩
  | m :: l, j + 1, hj => by
    have h := mvCells_get l j (by simpa using hj)
    have e : ∀ q, (mvCells (m :: l))[(j + 1) * 3 + q]? = (mvCells l)[j * 3 + q]? := fun q => by
      rw [show (j + 1) * 3 + q = (j * 3 + q) + 3 by omega]; simp [mvCells]
    exact ⟨(e 0).trans h.1, (e 1).trans h.2.1, (e 2).trans h.2.2⟩

def OwnM (w : World) (base : Nat) (v : Value) (l : List Mv) : Prop := w.ownsRow base 56 3 v l.length (mvCells l)
theorem OwnM.nil (w : World) (base : Nat) : OwnM w base (.slice none 0 0) [] := World.ownsRow_nil w base _ _
theorem OwnM.fr {w w' : World} {base : Nat} {v : Value} {l : List Mv} (h : OwnM w base v l) {S : Nat → Prop} (hf : Fr S w w') (hn : ∀ k, v.ownBlock = some k → ¬ S k) : OwnM w' base v l := ownsRow_fr h hf hn
theorem OwnM.lt {w : World} {base : Nat} {v : Value} {l : List Mv} (h : OwnM w base v l) {k : Nat} (hk : v.ownBlock = some k) : base ≤ k ∧ k < w.heap.size := World.ownsRow.lt h k hk
theorem OwnM.empty {w : World} {base : Nat} {v : Value} {l : List Mv} (h : OwnM w base v l) : (v = .slice none 0 0 ∧ l = []) ∨ ∃ g cap, v = .slice (some ⟨g, 0, none⟩) l.length cap ∧ base ≤ g ∧ g < w.heap.size := by
  rcases h.2 with ⟨h1, h2⟩ | ⟨g, cap, cur, h1, h2, h3, _⟩
  · exact .inl ⟨h1, List.eq_nil_of_length_eq_zero h2⟩
  · exact .inr ⟨g, cap, h1, h2, (Array.getElem?_eq_some_iff.1 h3).1⟩
theorem OwnM.mono {w : World} {base base' : Nat} {v : Value} {l : List Mv} (h : OwnM w base v l) (hb : base' ≤ base) : OwnM w base' v l := by
  refine ⟨h.1, ?_⟩
  rcases h.2 with h' | ⟨g, cap, cur, h1, h2, rest⟩
  · exact .inl h'
  · exact .inr ⟨g, cap, cur, h1, Nat.le_trans hb h2, rest⟩
theorem OwnM.mvs {w : World} {base : Nat} {v : Value} {l : List Mv} (h : OwnM w base v l) : ∃ a cap, v = .slice a l.length cap ∧ MvsAt w a l ∧ ∀ B off, a = some ⟨B, off, none⟩ → base ≤ B := by
  rcases h.empty with ⟨rfl, rfl⟩ | ⟨g, cap, rfl, hb, hg⟩
  · exact ⟨none, 0, rfl, .inl rfl, fun B off e => by cases e⟩
  · refine ⟨_, cap, rfl, .inr ⟨g, 0, rfl, hg, fun i hi => ?_⟩, fun B off e => by cases e; exact hb⟩
    obtain ⟨h0, h1, h2⟩ := mvCells_get l i hi
    have c := fun q v (hq : (mvCells l)[i * 3 + q]? = some v) (hlt : q < 3) => (World.ownsRow.cellAt h (i * 3 + q) (by omega)).trans hq
    simp only [Nat.zero_add]
    exact ⟨c 0 _ h0 (by omega), c 1 _ h1 (by omega), c 2 _ h2 (by omega)⟩

theorem infoMv : (Try.prog.info? 56).map (fun i => (i.zero, i.size, i.bytes)) = some (some (.agg #[.int .i64 0, .int .i64 0, .int .i64 0]), 3, 24) := by kernel_rfl
theorem uSliceMv : Try.prog.underlying 57 = some (.slice 56) := by kernel_rfl

theorem wp_appM {w : World} {ops : Array Oper} {rest : List Oper} {o : Oper} {a : Act} {Q : Exit → Act → World → Prop} (hgd : o.guard = none) {s x : Operand}
    (ho : o.op = .call { callee := .builtin .append, args := #[s, x], argTypes := #[57, 57] }) {base : Nat} {v : Value} {l : List Mv} (hs : a.eval s = v) (hown : OwnM w base v l)
    {B c : Nat} (hx : a.eval x = .slice (some ⟨B, 0, none⟩) 1 c) {y : Mv} (h0 : w.cell? ⟨B, 0, none⟩ = some (.int .i64 y.f)) (h1 : w.cell? ⟨B, 1, none⟩ = some (.int .i64 y.t)) (h2 : w.cell? ⟨B, 2, none⟩ = some (.int .i64 y.a)) (hlen : l.length ≤ 1000000) (hbase : base ≤ w.heap.size)
    (h : ∀ g cap w', OwnM w' base (.slice (some ⟨g, 0, none⟩) (l.length + 1) cap) (l ++ [y]) → Fr (fun i => v.ownBlock = some i) w w' → (v.ownBlock = some g ∨ g = w.heap.size) → g < w'.heap.size → wpList Try.prog ops Q rest (a.put o.dst (.slice (some ⟨g, 0, none⟩) (l.length + 1) cap)) w') :
    wpList Try.prog ops Q (o :: rest) a w := by
  obtain ⟨i0, hi, hz0, hz1, hz2⟩ := info_parts infoMv
  refine wpList_append_lies w hgd s x 57 ho base 56 i0 (.agg #[.int .i64 0, .int .i64 0, .int .i64 0]) 3 24 uSliceMv hi hz0 hz1 hz2 rfl (by decide) v l.length (mvCells l) hs hown ⟨B, 0, none⟩ 1 c [.int .i64 y.f, .int .i64 y.t, .int .i64 y.a] hx rfl ?_ ?_ (by decide) (by unfold maxLen; omega) (by omega) hbase w.heap.size rfl ?_
  · intro j u hj
    rw [add_addr]
    match j, hj with
    | 0, hj => simp at hj; subst hj; exact h0
    | 1, hj => simp at hj; subst hj; exact h1
    | 2, hj => simp at hj; subst hj; exact h2
    | j + 3, hj => simp at hj
  · intro u hu
    simp at hu
    rcases hu with rfl | rfl | rfl <;> rfl
  · intro g cap w' r1 r2 r3 r4
    refine h g cap w' ?_ (Fr.of_grown r2) r3 r4
    unfold OwnM
    rw [List.length_append, mvCells_append]
    exact r1

def movP (s : ByteArray) (p : Nat) : PR Mv :=
  match digP s p with
  | .error q => .error q
  | .ok x => match digP s x.2 with
    | .error q => .error q
    | .ok y => match numP s y.2 with
      | .error q => .error q
      | .ok z => .ok (⟨x.1, y.1, z.1⟩, z.2)
theorem digP_cases (s : ByteArray) (p : Nat) : (dgB s p = true ∧ digP s p = .ok (dgV s p, p + 1)) ∨ (dgB s p = false ∧ digP s p = .error p) := by
  unfold digP
  rcases hd : dgB s p with _ | _
  · exact .inr ⟨rfl, rfl⟩
  · exact .inl ⟨rfl, rfl⟩
theorem numL_le (s : ByteArray) : ∀ k v p, p ≤ (numL s k v p).2
  | 0, v, p => Nat.le_refl _
  | k + 1, v, p => by
    unfold numL
    split
    · have := numL_le s k (v * 10 + dgV s p) (p + 1); omega
    · exact Nat.le_refl _

theorem DC.lt {w : World} {C : Nat} {s : ByteArray} {p : Nat} (h : DC w C s p) : C < w.heap.size := h.c0.lt

theorem move_any {w : World} {C : Nat} {s : ByteArray} {p : Nat} (h : DC w C s p) : Calls Try.prog 54 #[.pointer (some ⟨C, 0, none⟩)] w fun e w' =>
    PostR (movP s p) Mv.val C s e w' ∧ Fr (fun i => i = C) w w' := by
  have H := hid h
  have hC := h.lt
  clear h
  have F0 := hid ((Fr.refl (fun _ => False) w).alloc (.cells #[.int .i64 0, .int .i64 0, .int .i64 0] 56))
  have H0 := hid (H.out.fr F0.out (fun h => h))
  have A0 : Hid (∀ q v, (#[.int .i64 0, .int .i64 0, .int .i64 0] : Array Value)[q]? = some v → At (w.alloc (.cells #[.int .i64 0, .int .i64 0, .int .i64 0] 56)) w.heap.size q v) := fun q v hv => At.new w _ _ hv
  rcases digP_cases s p with ⟨hb1, hd1⟩ | ⟨hb1, hd1⟩
  · rcases digP_cases s (p + 1) with ⟨hb2, hd2⟩ | ⟨hb2, hd2⟩
    · rcases hn : numP s (p + 1 + 1) with q | ⟨a, p3⟩
      · have hP : movP s p = .error q := by unfold movP; rw [hd1]; simp only; rw [hd2]; simp only; rw [hn]
        rw [hP]
        clear hP
        go_enter Try.func54, Try.ntmps54
        go_upto_region 1 with fail
        generalize w.alloc (.cells #[.int .i64 0, .int .i64 0, .int .i64 0] 56) = w0 at *
        go_wp2_with fail
        refine (digit_any H0.out).mono ?_
        rintro e w1 ⟨hp1, f1⟩
        rw [hd1] at hp1
        obtain ⟨rfl, D1⟩ := hp1
        have D1 := hid D1
        have F1 := hid f1
        clear f1
        unfold iV
        go_wp2_with fail
        refine (digit_any D1.out).mono ?_
        rintro e w2 ⟨hp2, f2⟩
        rw [hd2] at hp2
        obtain ⟨rfl, D2⟩ := hp2
        have D2 := hid D2
        have F2 := hid f2
        clear f2
        unfold iV
        go_wp2_with fail
        refine (num_any D2.out).mono ?_
        rintro e w3 ⟨hp3, f3⟩
        rw [hn] at hp3
        obtain rfl : e = pan q := hp3
        unfold pan
        go_wp2_with fail
        exact ⟨rfl, rfl, (F0.out.mono (fun _ _ h => h.elim)).trans (F1.out.trans (F2.out.trans f3))⟩
      · have hP : movP s p = .ok (⟨dgV s p, dgV s (p + 1), a⟩, p3) := by unfold movP; rw [hd1]; simp only; rw [hd2]; simp only; rw [hn]
        rw [hP]
        clear hP
        go_enter Try.func54, Try.ntmps54
        go_upto_region 1 with fail
        generalize w.alloc (.cells #[.int .i64 0, .int .i64 0, .int .i64 0] 56) = w0 at *
        obtain ⟨pm, hpm⟩ : ∃ pm, pm = w.heap.size := ⟨_, rfl⟩
        rw [← hpm] at A0 ⊢
        have HPM := hid hpm
        have hmC : pm ≠ C := by omega
        clear hpm
        go_wp2_with fail
        refine (digit_any H0.out).mono ?_
        rintro e w1 ⟨hp1, f1⟩
        rw [hd1] at hp1
        obtain ⟨rfl, D1⟩ := hp1
        have D1 := hid D1
        have F1 := hid f1
        clear f1
        unfold iV
        go_wp2_with fail
        refine (digit_any D1.out).mono ?_
        rintro e w2 ⟨hp2, f2⟩
        rw [hd2] at hp2
        obtain ⟨rfl, D2⟩ := hp2
        have D2 := hid D2
        have F2 := hid (F1.out.trans f2)
        clear f2
        unfold iV
        go_wp2_with fail
        refine (num_any D2.out).mono ?_
        rintro e w3 ⟨hp3, f3⟩
        rw [hn] at hp3
        obtain ⟨rfl, D3⟩ := hp3
        have D3 := hid D3
        have F3 := hid (F2.out.trans f3)
        have A3 := hid (fun q v hv => (A0.out q v hv).fr F3.out hmC)
        clear f3
        unfold iV
        have m0 := (A3.out 0 _ rfl).c
        have m1 := (A3.out 1 _ rfl).c
        have m2 := (A3.out 2 _ rfl).c
        have x0 := (A3.out 0 _ rfl).f
        have x1 := (A3.out 1 _ rfl).f
        have x2 := (A3.out 2 _ rfl).f
        go_wp2_with fail
        have z0 := ((((A3.out 0 _ rfl).same (.int .i64 (dgV s p))).other (b' := pm) (o' := 1) (by omega) (.int .i64 (dgV s (p + 1)))).other (b' := pm) (o' := 2) (by omega) (.int .i64 a)).c
        have z1 := ((((A3.out 1 _ rfl).other (b' := pm) (o' := 0) (by omega) (.int .i64 (dgV s p))).same (.int .i64 (dgV s (p + 1)))).other (b' := pm) (o' := 2) (by omega) (.int .i64 a)).c
        have z2 := ((((A3.out 2 _ rfl).other (b' := pm) (o' := 0) (by omega) (.int .i64 (dgV s p))).other (b' := pm) (o' := 1) (by omega) (.int .i64 (dgV s (p + 1)))).same (.int .i64 a)).c
        have ff : Fr (fun i => i = pm) w3 (((w3.setCell ⟨pm, 0, none⟩ (.int .i64 (dgV s p))).setCell ⟨pm, 1, none⟩ (.int .i64 (dgV s (p + 1)))).setCell ⟨pm, 2, none⟩ (.int .i64 a)) := (((Fr.refl (fun i => i = pm) w3).setCell (p := ⟨pm, 0, none⟩) (fun _ => rfl) _).setCell (p := ⟨pm, 1, none⟩) (fun _ => rfl) _).setCell (p := ⟨pm, 2, none⟩) (fun _ => rfl) _
        generalize ((w3.setCell ⟨pm, 0, none⟩ (.int .i64 (dgV s p))).setCell ⟨pm, 1, none⟩ (.int .i64 (dgV s (p + 1)))).setCell ⟨pm, 2, none⟩ (.int .i64 a) = w4 at *
        refine bodyPost_ret (v := Mv.val ⟨dgV s p, dgV s (p + 1), a⟩) (by simp [results, Try.results54, go_sem, z0, z1, z2, Mv.val]) rfl ⟨⟨rfl, D3.out.fr ff (fun e => hmC e.symm)⟩, ?_⟩
        exact ((F0.out.mono (fun _ _ h => h.elim)).trans F3.out).then ff (fun i hi e => by have := HPM.out; omega)
    · have hP : movP s p = .error (p + 1) := by unfold movP; rw [hd1]; simp only; rw [hd2]
      rw [hP]
      clear hP
      go_enter Try.func54, Try.ntmps54
      go_upto_region 1 with fail
      generalize w.alloc (.cells #[.int .i64 0, .int .i64 0, .int .i64 0] 56) = w0 at *
      go_wp2_with fail
      refine (digit_any H0.out).mono ?_
      rintro e w1 ⟨hp1, f1⟩
      rw [hd1] at hp1
      obtain ⟨rfl, D1⟩ := hp1
      have D1 := hid D1
      have F1 := hid f1
      clear f1
      unfold iV
      go_wp2_with fail
      refine (digit_any D1.out).mono ?_
      rintro e w2 ⟨hp2, f2⟩
      rw [hd2] at hp2
      obtain rfl : e = pan (p + 1) := hp2
      unfold pan
      go_wp2_with fail
      exact ⟨rfl, rfl, (F0.out.mono (fun _ _ h => h.elim)).trans (F1.out.trans f2)⟩
  · have hP : movP s p = .error p := by unfold movP; rw [hd1]
    rw [hP]
    clear hP
    go_enter Try.func54, Try.ntmps54
    go_upto_region 1 with fail
    generalize w.alloc (.cells #[.int .i64 0, .int .i64 0, .int .i64 0] 56) = w0 at *
    go_wp2_with fail
    refine (digit_any H0.out).mono ?_
    rintro e w1 ⟨hp1, f1⟩
    rw [hd1] at hp1
    obtain rfl : e = pan p := hp1
    unfold pan
    go_wp2_with fail
    exact ⟨rfl, rfl, (F0.out.mono (fun _ _ h => h.elim)).trans f1⟩

end Go.Proofs.Qxb6500452a
