/- Moves: the list out of the bytes. -/
import Derived.Test.Qxb6500453aWOwn
import Derived.Deep.RegionHeldLaw
namespace Go.Proofs.Qxb6500453a
open Go Go.RowKit
set_option maxRecDepth 100000
set_option maxHeartbeats 1600000
set_option linter.unusedSimpArgs false
set_option linter.unusedVariables false

def mvCells : List Mv → List Value
  | [] => []
  | m :: l => .int .i64 m.f :: .int .i64 m.t :: .int .i64 m.a :: mvCells l
theorem mvCells_append : ∀ (l k : List Mv), mvCells (l ++ k) = mvCells l ++ mvCells k
  | [], k => rfl
  | m :: l, k => by simp [mvCells, mvCells_append l k]
theorem mvCells_len : ∀ (l : List Mv), (mvCells l).length = l.length * 3
  | [] => rfl
  | m :: l => by simp [mvCells, mvCells_len l]; omega
theorem mvCells_get : ∀ (l : List Mv) (j : Nat) (hj : j < l.length), (mvCells l)[j * 3]? = some (.int .i64 l[j].f) ∧ (mvCells l)[j * 3 + 1]? = some (.int .i64 l[j].t) ∧ (mvCells l)[j * 3 + 2]? = some (.int .i64 l[j].a)
  | [], j, hj => by simp at hj
  | m :: l, 0, hj => ⟨rfl, rfl, rfl⟩
  | m :: l, j + 1, hj => by
    have h := mvCells_get l j (by simpa using hj)
    have e : ∀ q, (mvCells (m :: l))[(j + 1) * 3 + q]? = (mvCells l)[j * 3 + q]? := fun q => by
      rw [show (j + 1) * 3 + q = (j * 3 + q) + 3 by omega]; simp [mvCells]
    exact ⟨(e 0).trans h.1, (e 1).trans h.2.1, (e 2).trans h.2.2⟩

def OwnM (w : World) (base : Nat) (v : Value) (l : List Mv) : Prop := w.ownsRow base 33 3 v l.length (mvCells l)
theorem OwnM.nil (w : World) (base : Nat) : OwnM w base (.slice none 0 0) [] := World.ownsRow_nil w base _ _
theorem OwnM.fr {w w' : World} {base : Nat} {v : Value} {l : List Mv} (h : OwnM w base v l) {S : Nat → Prop} (hf : Fr S w w') (hn : ∀ k, v.ownBlock = some k → ¬ S k) : OwnM w' base v l := ownsRow_fr h hf hn
theorem OwnM.lt {w : World} {base : Nat} {v : Value} {l : List Mv} (h : OwnM w base v l) {k : Nat} (hk : v.ownBlock = some k) : base ≤ k ∧ k < w.heap.size := World.ownsRow.lt h k hk
theorem OwnM.empty {w : World} {base : Nat} {v : Value} {l : List Mv} (h : OwnM w base v l) : (v = .slice none 0 0 ∧ l = []) ∨ ∃ g cap, v = .slice (some ⟨g, 0, none⟩) l.length cap ∧ base ≤ g ∧ g < w.heap.size := by
  rcases h.2 with ⟨h1, h2⟩ | ⟨g, cap, cur, h1, h2, h3, _⟩
  · exact .inl ⟨h1, List.eq_nil_of_length_eq_zero h2⟩
  · exact .inr ⟨g, cap, h1, h2, (Array.getElem?_eq_some_iff.1 h3).1⟩
theorem OwnM.mono {w : World} {base base' : Nat} {v : Value} {l : List Mv} (h : OwnM w base v l) (hb : base' ≤ base) : OwnM w base' v l := by
  refine ⟨h.1, ?_⟩
  rcases h.2 with h' | ⟨g, cap, cur, h1, h2, rest⟩
  · exact .inl h'
  · exact .inr ⟨g, cap, cur, h1, Nat.le_trans hb h2, rest⟩
theorem OwnM.mvs {w : World} {base : Nat} {v : Value} {l : List Mv} (h : OwnM w base v l) : ∃ a cap, v = .slice a l.length cap ∧ MvsAt w a l ∧ ∀ B off, a = some ⟨B, off, none⟩ → base ≤ B := by
  rcases h.empty with ⟨rfl, rfl⟩ | ⟨g, cap, rfl, hb, hg⟩
  · exact ⟨none, 0, rfl, .inl rfl, fun B off e => by cases e⟩
  · refine ⟨_, cap, rfl, .inr ⟨g, 0, rfl, hg, fun i hi => ?_⟩, fun B off e => by cases e; exact hb⟩
    obtain ⟨h0, h1, h2⟩ := mvCells_get l i hi
    have c := fun q v (hq : (mvCells l)[i * 3 + q]? = some v) (hlt : q < 3) => (World.ownsRow.cellAt h (i * 3 + q) (by omega)).trans hq
    simp only [Nat.zero_add]
    exact ⟨c 0 _ h0 (by omega), c 1 _ h1 (by omega), c 2 _ h2 (by omega)⟩

theorem infoMv : (Try.prog.info? 33).map (fun i => (i.zero, i.size, i.bytes)) = some (some (.agg #[.int .i64 0, .int .i64 0, .int .i64 0]), 3, 24) := by kernel_rfl
theorem uSliceMv : Try.prog.underlying 34 = some (.slice 33) := by kernel_rfl

theorem step_appM {w : World} {ops : Array Oper} {o : Oper} {a : Act} {K : Act → World → Prop} {Q : Exit → Act → World → Prop} {E : Prop} (hgd : o.guard = none) {s x : Operand}
    (ho : o.op = .call { callee := .builtin .append, args := #[s, x], argTypes := #[34, 34] }) {base : Nat} {v : Value} {l : List Mv} (hs : a.eval s = v) (hown : OwnM w base v l)
    {B c : Nat} (hx : a.eval x = .slice (some ⟨B, 0, none⟩) 1 c) {y : Mv} (h0 : w.cell? ⟨B, 0, none⟩ = some (.int .i64 y.f)) (h1 : w.cell? ⟨B, 1, none⟩ = some (.int .i64 y.t)) (h2 : w.cell? ⟨B, 2, none⟩ = some (.int .i64 y.a)) (hlen : l.length ≤ 1000000) (hbase : base ≤ w.heap.size)
    (h : ∀ g cap w', OwnM w' base (.slice (some ⟨g, 0, none⟩) (l.length + 1) cap) (l ++ [y]) → Fr (fun i => v.ownBlock = some i) w w' → (v.ownBlock = some g ∨ g = w.heap.size) → g < w'.heap.size → K (a.put o.dst (.slice (some ⟨g, 0, none⟩) (l.length + 1) cap)) w') :
    if Region.wanted o (yielded ops a.tmps) = true then Oper.wp Try.prog o a w K Q else E := by
  obtain ⟨i0, hi, hz0, hz1, hz2⟩ := info_parts infoMv
  refine step_append_lies w hgd s x 34 ho base 33 i0 (.agg #[.int .i64 0, .int .i64 0, .int .i64 0]) 3 24 uSliceMv hi hz0 hz1 hz2 rfl (by decide) v l.length (mvCells l) hs hown ⟨B, 0, none⟩ 1 c [.int .i64 y.f, .int .i64 y.t, .int .i64 y.a] hx rfl ?_ ?_ (by decide) (by unfold maxLen; omega) (by omega) hbase w.heap.size rfl ?_
  · intro j u hj
    rw [add_addr]
    match j, hj with
    | 0, hj => simp at hj; subst hj; exact h0
    | 1, hj => simp at hj; subst hj; exact h1
    | 2, hj => simp at hj; subst hj; exact h2
    | j + 3, hj => simp at hj
  · intro u hu
    simp at hu
    rcases hu with rfl | rfl | rfl <;> rfl
  · intro g cap w' r1 r2 r3 r4
    refine h g cap w' ?_ (Fr.of_grown r2) r3 r4
    unfold OwnM
    rw [List.length_append, mvCells_append]
    exact r1

def add3 (a b c : Int) (i : Nat) : Int := if i % 3 = 0 then a else if i % 3 = 1 then b else c
def byI (s : ByteArray) (i : Nat) : Int := ((s[i]?.getD 0).toNat : Int)
def movAt (s : ByteArray) (a b c : Int) (i : Nat) : Mv := ⟨IntKind.i64.wrap (IntKind.i64.wrap (byI s (3 * i)) - 48), IntKind.i64.wrap (IntKind.i64.wrap (byI s (3 * i + 1)) - 48), IntKind.i64.wrap (IntKind.i64.wrap (byI s (3 * i + 2)) + add3 a b c i)⟩
def movN (s : ByteArray) : Nat := if s.size / 3 < 4 then s.size / 3 else 4
def movs (s : ByteArray) (a b c : Int) : List Mv := (List.range (movN s)).map (movAt s a b c)

theorem moves_any (s : ByteArray) (a b c : Int) (w : World) :
    Calls Try.prog 50 #[.string s, .int .i64 a, .int .i64 b, .int .i64 c] w fun e w' => ∃ v, e = .returned v ∧ OwnM w' w.heap.size v (movs s a b c) ∧ Fr (fun _ => False) w w' := by
  have hsz : (0 : Int) ≤ (s.size : Int) := by omega
  go_enter Try.func50, Try.ntmps50
  go_wp2_with fail
  have A0 : Hid (∀ j, j < 3 → At (w.alloc (.cells #[.int .i64 a, .int .i64 b, .int .i64 c] 113)) w.heap.size j (.int .i64 (add3 a b c j))) := fun j hj => by
    have : j = 0 ∨ j = 1 ∨ j = 2 := by omega
    rcases this with rfl | rfl | rfl <;> exact At.new w _ _ rfl
  have F0 := hid ((Fr.refl (fun _ => False) w).alloc (.cells #[.int .i64 a, .int .i64 b, .int .i64 c] 113))
  have HZ : Hid ((w.alloc (.cells #[.int .i64 a, .int .i64 b, .int .i64 c] 113)).heap.size = w.heap.size + 1) := by simp [Hid]
  generalize w.alloc (.cells #[.int .i64 a, .int .i64 b, .int .i64 c] 113) = w1 at *
  obtain ⟨pa, hpa⟩ : ∃ pa, pa = w.heap.size := ⟨_, rfl⟩
  rw [← hpa] at A0 HZ ⊢
  have HPA := hid hpa
  clear hpa
  go_loopw [10, 11] (fun v p wr => ∃ n q : Nat, n ≤ movN s ∧ q = 3 * n ∧ p = .int .i64 (q : Int) ∧ OwnM wr (pa + 1) v ((List.range n).map (movAt s a b c)) ∧ (∀ j, j < 3 → At wr pa j (.int .i64 (add3 a b c j))) ∧ Fr (fun _ => False) w wr) (fun _ p _ => 12 - (intOf p).toNat)
  case atStart => exact ⟨0, 0, by omega, rfl, rfl, OwnM.nil _ _, A0.out, F0.out⟩
  case round =>
    clear A0 F0 HZ
    obtain ⟨n, q, hn, hq, rfl, ow, ad, fr⟩ := hrel
    have HQ := hid hq
    have OW := hid ow
    have AD := hid ad
    have FR := hid fr
    have HN := hid hn
    clear ow ad fr hn
    obtain ⟨x7, cap7, hv, _, _⟩ := OW.out.mvs
    subst hv
    have hlm : ((List.range n).map (movAt s a b c)).length = n := by simp
    rw [hlm] at OW ⊢
    by_cases hlt : n < movN s
    · have HLT : Hid (n + 1 ≤ movN s) := hlt
      have h3 : 3 * n + 3 ≤ s.size ∧ n ≤ 3 := by
        unfold movN at hlt
        split at hlt <;> omega
      have hA : (q : Int) + 3 ≤ (s.size : Int) := by omega
      have hn3 : (n : Int) ≤ 3 := by omega
      have hq9 : (q : Int) ≤ 9 := by omega
      have hn0 : (0 : Int) ≤ (n : Int) := by omega
      have hb0 : (0 : Int) ≤ (q : Int) := by omega
      have hb1 : (q : Int) < (s.size : Int) := by omega
      have hb2 : (q : Int) + 1 < (s.size : Int) := by omega
      have hb3 : (q : Int) + 2 < (s.size : Int) := by omega
      obtain ⟨j, hj⟩ : ∃ j, j = n % 3 := ⟨_, rfl⟩
      have hj3 : j < 3 := by omega
      have hj3I : (j : Int) < 3 := by omega
      have hjr : (n : Int).tmod 3 = (j : Int) := by rw [hj]; exact Int.tmod_eq_emod_of_nonneg hn0
      have cA := (AD.out j hj3).c
      have t1 : ((q : Int) + 1).toNat = q + 1 := by omega
      have t2 : ((q : Int) + 2).toNat = q + 2 := by omega
      have p1 : (0 : Int) ≤ (q : Int) + 1 := by omega
      have p2 : (0 : Int) ≤ (q : Int) + 2 := by omega
      have hw1 : IntKind.i64.wrap ((q : Int) + 1) = (q : Int) + 1 := Go.IntWalk.i64_in _ (by omega)
      have hw2 : IntKind.i64.wrap ((q : Int) + 2) = (q : Int) + 2 := Go.IntWalk.i64_in _ (by omega)
      have hw3 : IntKind.i64.wrap (j : Int) = (j : Int) := Go.IntWalk.i64_in _ (by omega)
      have hs0 : q < s.size := by omega
      have hs1 : q + 1 < s.size := by omega
      have hs2 : q + 2 < s.size := by omega
      have HY : Hid (movAt s a b c n = ⟨IntKind.i64.wrap (IntKind.i64.wrap (s[q].toNat : Int) - 48), IntKind.i64.wrap (IntKind.i64.wrap (s[q + 1].toNat : Int) - 48), IntKind.i64.wrap (IntKind.i64.wrap (s[q + 2].toNat : Int) + add3 a b c j)⟩) := by
        have ea : add3 a b c n = add3 a b c j := by rw [hj]; unfold add3; rw [Nat.mod_mod]
        have e0 : byI s (3 * n) = (s[q].toNat : Int) := by unfold byI; rw [← hq]; simp [hs0]
        have e1 : byI s (3 * n + 1) = (s[q + 1].toNat : Int) := by unfold byI; rw [← hq]; simp [hs1]
        have e2 : byI s (3 * n + 2) = (s[q + 2].toNat : Int) := by unfold byI; rw [← hq]; simp [hs2]
        unfold Hid movAt
        rw [ea, e0, e1, e2]
      clear hlt h3 hj hq
      go_upto_region 6 with fail
      refine wp_region_held_drew (S := (fun W => W.cell? ⟨pa, j, none⟩ = some (.int .i64 (add3 a b c j)))) (by kernel_rfl) ?_ (fun hHeld => ?_)
      · (try dsimp only)
        go_keep
      refine wpAnyH_take (i := 0) (v := ?_) rfl (by kernel_rfl) (by kernel_rfl) (by kernel_rfl) (fun _ _ _ h => h) (Or.inl ⟨by rfl, ?_⟩) (by assumption) ?_
      rotate_left
      · intro W hSw
        (try dsimp only at hSw)
        go_simp
        (try with_reducible rfl)
      try simp only [Act.put, List.setIfInBounds_toArray, List.set_cons_zero, List.set_cons_succ]
      refine wpAnyH_take (i := 1) (v := ?_) rfl (by kernel_rfl) (by kernel_rfl) (by kernel_rfl) (fun _ _ _ h => h) (Or.inl ⟨by rfl, ?_⟩) (by assumption) ?_
      rotate_left
      · intro W hSw
        (try dsimp only at hSw)
        go_simp
        (try with_reducible rfl)
      try simp only [Act.put, List.setIfInBounds_toArray, List.set_cons_zero, List.set_cons_succ]
      refine wpAnyH_take (i := 2) (v := ?_) rfl (by kernel_rfl) (by kernel_rfl) (by kernel_rfl) (fun _ _ _ h => h) (Or.inl ⟨by rfl, ?_⟩) (by assumption) ?_
      rotate_left
      · intro W hSw
        (try dsimp only at hSw)
        go_simp
        (try with_reducible rfl)
      try simp only [Act.put, List.setIfInBounds_toArray, List.set_cons_zero, List.set_cons_succ]
      refine wpAnyH_take (i := 3) (v := ?_) rfl (by kernel_rfl) (by kernel_rfl) (by kernel_rfl) (fun _ _ _ h => h) (Or.inl ⟨by rfl, ?_⟩) (by assumption) ?_
      rotate_left
      · intro W hSw
        (try dsimp only at hSw)
        go_simp
        (try with_reducible rfl)
      try simp only [Act.put, List.setIfInBounds_toArray, List.set_cons_zero, List.set_cons_succ]
      refine wpAnyH_take (i := 4) (v := ?_) rfl (by kernel_rfl) (by kernel_rfl) (by kernel_rfl) (fun _ _ _ h => h) (Or.inl ⟨by rfl, ?_⟩) (by assumption) ?_
      rotate_left
      · intro W hSw
        (try dsimp only at hSw)
        go_simp
        (try with_reducible rfl)
      try simp only [Act.put, List.setIfInBounds_toArray, List.set_cons_zero, List.set_cons_succ]
      refine wpAnyH_take (i := 5) (v := ?_) rfl (by kernel_rfl) (by kernel_rfl) (by kernel_rfl) (fun _ _ _ h => h) (Or.inl ⟨by rfl, ?_⟩) (by assumption) ?_
      rotate_left
      · intro W hSw
        (try dsimp only at hSw)
        go_simp
        (try with_reducible rfl)
      try simp only [Act.put, List.setIfInBounds_toArray, List.set_cons_zero, List.set_cons_succ]
      refine wpAnyH_take (i := 6) (v := ?_) rfl (by kernel_rfl) (by kernel_rfl) (by kernel_rfl) (fun _ _ _ h => h) (Or.inl ⟨by rfl, ?_⟩) (by assumption) ?_
      rotate_left
      · intro W hSw
        (try dsimp only at hSw)
        go_simp
        (try with_reducible rfl)
      try simp only [Act.put, List.setIfInBounds_toArray, List.set_cons_zero, List.set_cons_succ]
      refine wpAnyH_take (i := 7) (v := ?_) rfl (by kernel_rfl) (by kernel_rfl) (by kernel_rfl) (fun _ _ _ h => h) (Or.inl ⟨by rfl, ?_⟩) (by assumption) ?_
      rotate_left
      · intro W hSw
        (try dsimp only at hSw)
        go_simp
        (try with_reducible rfl)
      try simp only [Act.put, List.setIfInBounds_toArray, List.set_cons_zero, List.set_cons_succ]
      refine wpAnyH_take (i := 8) (v := ?_) rfl (by kernel_rfl) (by kernel_rfl) (by kernel_rfl) (fun _ _ _ h => h) (Or.inl ⟨by rfl, ?_⟩) (by assumption) ?_
      rotate_left
      · intro W hSw
        (try dsimp only at hSw)
        go_simp
        (try with_reducible rfl)
      try simp only [Act.put, List.setIfInBounds_toArray, List.set_cons_zero, List.set_cons_succ]
      refine wpAnyH_take (i := 9) (v := ?_) rfl (by kernel_rfl) (by kernel_rfl) (by kernel_rfl) (fun _ _ _ h => h) (Or.inl ⟨by rfl, ?_⟩) (by assumption) ?_
      rotate_left
      · intro W hSw
        (try dsimp only at hSw)
        go_simp
        (try with_reducible rfl)
      try simp only [Act.put, List.setIfInBounds_toArray, List.set_cons_zero, List.set_cons_succ]
      refine wpAnyH_take (i := 10) (v := ?_) rfl (by kernel_rfl) (by kernel_rfl) (by kernel_rfl) (fun _ _ _ h => h) (Or.inl ⟨by rfl, ?_⟩) (by assumption) ?_
      rotate_left
      · intro W hSw
        (try dsimp only at hSw)
        go_simp
        (try with_reducible rfl)
      try simp only [Act.put, List.setIfInBounds_toArray, List.set_cons_zero, List.set_cons_succ]
      refine wpAnyH_take (i := 11) (v := ?_) rfl (by kernel_rfl) (by kernel_rfl) (by kernel_rfl) (fun _ _ _ h => h) (Or.inl ⟨by rfl, ?_⟩) (by assumption) ?_
      rotate_left
      · intro W hSw
        (try dsimp only at hSw)
        go_simp
        (try with_reducible rfl)
      try simp only [Act.put, List.setIfInBounds_toArray, List.set_cons_zero, List.set_cons_succ]
      refine wpAnyH_take (i := 12) (v := ?_) rfl (by kernel_rfl) (by kernel_rfl) (by kernel_rfl) (fun _ _ _ h => h) (Or.inl ⟨by rfl, ?_⟩) (by assumption) ?_
      rotate_left
      · intro W hSw
        (try dsimp only at hSw)
        go_simp
        (try with_reducible rfl)
      try simp only [Act.put, List.setIfInBounds_toArray, List.set_cons_zero, List.set_cons_succ]
      refine wpAnyH_take (i := 13) (v := ?_) rfl (by kernel_rfl) (by kernel_rfl) (by kernel_rfl) (fun _ _ _ h => h) (Or.inl ⟨by rfl, ?_⟩) (by assumption) ?_
      rotate_left
      · intro W hSw
        (try dsimp only at hSw)
        go_simp
        (try with_reducible rfl)
      try simp only [Act.put, List.setIfInBounds_toArray, List.set_cons_zero, List.set_cons_succ]
      refine wpAnyH_take (i := 14) (v := ?_) rfl (by kernel_rfl) (by kernel_rfl) (by kernel_rfl) (fun _ _ _ h => h) (Or.inl ⟨by rfl, ?_⟩) (by assumption) ?_
      rotate_left
      · intro W hSw
        (try dsimp only at hSw)
        go_simp
        (try with_reducible rfl)
      try simp only [Act.put, List.setIfInBounds_toArray, List.set_cons_zero, List.set_cons_succ]
      refine wpAnyH_take (i := 15) (v := ?_) rfl (by kernel_rfl) (by kernel_rfl) (by kernel_rfl) (fun _ _ _ h => h) (Or.inl ⟨by rfl, ?_⟩) (by assumption) ?_
      rotate_left
      · intro W hSw
        (try dsimp only at hSw)
        go_simp
        (try with_reducible rfl)
      try simp only [Act.put, List.setIfInBounds_toArray, List.set_cons_zero, List.set_cons_succ]
      refine wpAnyH_take (i := 16) (v := ?_) rfl (by kernel_rfl) (by kernel_rfl) (by kernel_rfl) (fun _ _ _ h => h) (Or.inl ⟨by rfl, ?_⟩) (by assumption) ?_
      rotate_left
      · intro W hSw
        (try dsimp only at hSw)
        go_simp
        (try with_reducible rfl)
      try simp only [Act.put, List.setIfInBounds_toArray, List.set_cons_zero, List.set_cons_succ]
      refine wpAnyH_take (i := 17) (v := ?_) rfl (by kernel_rfl) (by kernel_rfl) (by kernel_rfl) (fun _ _ _ h => h) (Or.inl ⟨by rfl, ?_⟩) (by assumption) ?_
      rotate_left
      · intro W hSw
        (try dsimp only at hSw)
        go_simp
        (try with_reducible rfl)
      try simp only [Act.put, List.setIfInBounds_toArray, List.set_cons_zero, List.set_cons_succ]
      refine wpAnyH_take (i := 18) (v := ?_) rfl (by kernel_rfl) (by kernel_rfl) (by kernel_rfl) (fun _ _ _ h => h) (Or.inl ⟨by rfl, ?_⟩) (by assumption) ?_
      rotate_left
      · intro W hSw
        (try dsimp only at hSw)
        go_simp
        (try with_reducible rfl)
      try simp only [Act.put, List.setIfInBounds_toArray, List.set_cons_zero, List.set_cons_succ]
      refine wpAnyH_take (i := 19) (v := ?_) rfl (by kernel_rfl) (by kernel_rfl) (by kernel_rfl) (fun _ _ _ h => h) (Or.inl ⟨by rfl, ?_⟩) (by assumption) ?_
      rotate_left
      · intro W hSw
        (try dsimp only at hSw)
        go_simp
        (try with_reducible rfl)
      try simp only [Act.put, List.setIfInBounds_toArray, List.set_cons_zero, List.set_cons_succ]
      refine wpAnyH_take (i := 20) (v := ?_) rfl (by kernel_rfl) (by kernel_rfl) (by kernel_rfl) (fun _ _ _ h => h) (Or.inl ⟨by rfl, ?_⟩) (by assumption) ?_
      rotate_left
      · intro W hSw
        (try dsimp only at hSw)
        go_simp
        (try with_reducible rfl)
      try simp only [Act.put, List.setIfInBounds_toArray, List.set_cons_zero, List.set_cons_succ]
      refine wpAnyH_take (i := 21) (v := ?_) rfl (by kernel_rfl) (by kernel_rfl) (by kernel_rfl) (fun _ _ _ h => h) (Or.inl ⟨by rfl, ?_⟩) (by assumption) ?_
      rotate_left
      · intro W hSw
        (try dsimp only at hSw)
        go_simp
        (try with_reducible rfl)
      try simp only [Act.put, List.setIfInBounds_toArray, List.set_cons_zero, List.set_cons_succ]
      refine wpAnyH_take (i := 22) (v := ?_) rfl (by kernel_rfl) (by kernel_rfl) (by kernel_rfl) (fun _ _ _ h => h) (Or.inl ⟨by rfl, ?_⟩) (by assumption) ?_
      rotate_left
      · intro W hSw
        (try dsimp only at hSw)
        go_simp
        (try with_reducible rfl)
      try simp only [Act.put, List.setIfInBounds_toArray, List.set_cons_zero, List.set_cons_succ]
      refine wpAnyH_take (i := 23) (v := ?_) rfl (by kernel_rfl) (by kernel_rfl) (by kernel_rfl) (fun _ _ _ h => h) (Or.inl ⟨by rfl, ?_⟩) (by assumption) ?_
      rotate_left
      · intro W hSw
        (try dsimp only at hSw)
        go_simp
        (try with_reducible rfl)
      try simp only [Act.put, List.setIfInBounds_toArray, List.set_cons_zero, List.set_cons_succ]
      refine wpAnyH_ready (rs := [24]) (by kernel_rfl) (by simp) ?_
      refine AllReadyH.cons rfl (fun K hK => ?_) AllReadyH.nil
      go_simp
      refine hK.out _ _ ?_ (fun hHeld => ?_)
      · (try dsimp only)
        go_keep
      clear hK K
      try simp only [Act.put, List.setIfInBounds_toArray, List.set_cons_zero, List.set_cons_succ]
      refine wpAnyH_ready (rs := [25]) (by kernel_rfl) (by simp) ?_
      refine AllReadyH.cons rfl (fun K hK => ?_) AllReadyH.nil
      have hz0 : pa < wr.heap.size := (AD.out 0 (by omega)).lt
      have fz : Fr (fun _ => False) wr (wr.alloc (.cells #[.int .i64 (IntKind.i64.wrap (IntKind.i64.wrap (s[q].toNat : Int) - 48)), .int .i64 (IntKind.i64.wrap (IntKind.i64.wrap (s[q + 1].toNat : Int) - 48)), .int .i64 (IntKind.i64.wrap (IntKind.i64.wrap (s[q + 2].toNat : Int) + add3 a b c j))] 33)).drew := ((Fr.refl _ _).alloc _).drew
      refine step_appM (base := pa + 1) (l := (List.range n).map (movAt s a b c)) rfl rfl (v := .slice x7 n cap7) rfl (OW.out.fr fz (fun _ _ h => h)) rfl (y := ⟨IntKind.i64.wrap (IntKind.i64.wrap (s[q].toNat : Int) - 48), IntKind.i64.wrap (IntKind.i64.wrap (s[q + 1].toNat : Int) - 48), IntKind.i64.wrap (IntKind.i64.wrap (s[q + 2].toNat : Int) + add3 a b c j)⟩) (At.new wr _ _ rfl).drew.c (At.new wr _ _ rfl).drew.c (At.new wr _ _ rfl).drew.c (by simp; omega) (by have := fz.size; omega) ?_
      intro g cp w7 ow7 f7 hg7 hl7
      have nv : ¬ (Value.slice x7 n cap7).ownBlock = some pa := fun e => by have := (OW.out.lt e).1; omega
      have g7 : w7.cell? ⟨pa, j, none⟩ = some (.int .i64 (add3 a b c j)) := cellFr f7 nv hHeld
      refine hK.out _ _ ?_ (fun hHeld => ?_)
      · (try dsimp only)
        exact g7
      clear hK K
      try simp only [Act.put, List.setIfInBounds_toArray, List.set_cons_zero, List.set_cons_succ]
      refine wpAnyH_take (i := 26) (v := ?_) rfl (by kernel_rfl) (by kernel_rfl) (by kernel_rfl) (fun _ _ _ h => h) (Or.inl ⟨by rfl, ?_⟩) (by assumption) ?_
      rotate_left
      · intro W hSw
        (try dsimp only at hSw)
        go_simp
        (try with_reducible rfl)
      try simp only [Act.put, List.setIfInBounds_toArray, List.set_cons_zero, List.set_cons_succ]
      refine wpAnyH_done (by kernel_rfl) ?_ _
      go_wp2_with fail
      have hpa := HPA.out
      refine ⟨⟨n + 1, q + 3, HLT.out, by have := HQ.out; omega, by go_num, ?_, fun j hj => ((AD.out j hj).fr fz (fun h => h)).fr f7 nv, (FR.out.trans fz).then f7 (fun i hi e => by have := (OW.out.lt e).1; omega)⟩, by simp [intOf]; omega⟩
      rw [List.range_succ, List.map_append]
      simp only [List.map_cons, List.map_nil]
      rw [HY.out]
      rw [hlm] at ow7
      exact ow7
    · have hn' : n = movN s := by have := HN.out; omega
      have HNN := hid hn'
      have hpa := HPA.out
      by_cases h3 : (q : Int) + 3 ≤ (s.size : Int)
      · have hn4 : n = 4 := by
          unfold movN at hn'
          split at hn' <;> omega
        subst hn4
        have hq9 : (q : Int) = 12 := by omega
        have hq12 : q = 12 := by omega
        subst hq12
        clear hlt hn' hq9
        go_wp2_with fail
        go_ret
        refine ⟨_, rfl, ?_, FR.out⟩
        have := OW.out.mono (base' := w.heap.size) (by omega)
        unfold movs
        rw [← HNN.out]
        exact this
      · have hq12 : (q : Int) ≤ 12 := by
          have : n ≤ 4 := by rw [hn']; unfold movN; split <;> omega
          omega
        clear hlt hn'
        go_wp2_with fail
        go_ret
        refine ⟨_, rfl, ?_, FR.out⟩
        have := OW.out.mono (base' := w.heap.size) (by omega)
        unfold movs
        rw [← HNN.out]
        exact this

end Go.Proofs.Qxb6500453a
