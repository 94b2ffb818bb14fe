/- The laws at the operations on maps. -/
import Derived.Test.Qxb6500450aGreatRange
import Derived.Maps.RangeWalk
import Derived.Maps.OwnOps
namespace Go.Proofs.Qxb6500450aGreat
open Go Go.RowKit
set_option linter.unusedSimpArgs false
set_option linter.unusedVariables false

section maps
variable {K : Type} [DecidableEq K] {P : Program} {w : World} {ops : Array Oper} {rest : List Oper} {o : Oper} {a : Act} {Q : Exit → Act → World → Prop} {mt kt et : TypeId} {kv : K → Value}

theorem wp_look1 (hg : o.guard = none) {m x : Operand} (hop : o.op = Op.lookup mt m x false) (L : KL P kt kv) (hm : P.underlying mt = some (.map kt et)) {z : Value} (hz : ∀ w, (zeroValue et).run P w = .ok z w)
    {b n : Nat} {f : K → Option Value} (h : MapF kv w b f n) (em : a.eval m = .map (some b)) {k : K} (ex : a.eval x = kv k) {v : Value} (hv : (f k).getD z = v)
    (hK : wpList P ops Q rest (a.put o.dst v) w) : wpList P ops Q (o :: rest) a w := by
  refine wpList_plain hg fun K' hK' => ?_
  have hrun := h.lookup L hm (hz w) k false
  unfold Oper.wp
  simp [execOp, hop, em, ex, hrun, hv, Result.andThen]
  exact hK' _ _ hK

theorem wp_look2 (hg : o.guard = none) {m x : Operand} (hop : o.op = Op.lookup mt m x true) (L : KL P kt kv) (hm : P.underlying mt = some (.map kt et)) {z : Value} (hz : ∀ w, (zeroValue et).run P w = .ok z w)
    {b n : Nat} {f : K → Option Value} (h : MapF kv w b f n) (em : a.eval m = .map (some b)) {k : K} (ex : a.eval x = kv k) {v : Value} {s : Bool} (hv : (f k).getD z = v) (hs : (f k).isSome = s)
    (hK : wpList P ops Q rest (a.put o.dst (.tuple #[v, .bool s])) w) : wpList P ops Q (o :: rest) a w := by
  refine wpList_plain hg fun K' hK' => ?_
  have hrun := h.lookup L hm (hz w) k true
  unfold Oper.wp
  simp [execOp, hop, em, ex, hrun, hv, hs, Result.andThen]
  exact hK' _ _ hK

theorem wp_upd (hg : o.guard = none) {m x v : Operand} (hop : o.op = Op.mapUpdate mt m x v) (L : KL P kt kv) (hm : P.underlying mt = some (.map kt et))
    {b n : Nat} {f : K → Option Value} (h : MapF kv w b f n) (em : a.eval m = .map (some b)) {k : K} (ex : a.eval x = kv k) {u : Value} (ev : a.eval v = u)
    (hK : ∀ w', MapF kv w' b (updF f k (some u)) (if (f k).isSome then n else n + 1) → Fr (fun i => i = b) w w' → w'.heap.size = w.heap.size → wpList P ops Q rest (a.put o.dst undef) w') : wpList P ops Q (o :: rest) a w := by
  refine wpList_plain hg fun K' hK' => ?_
  obtain ⟨w', hrun, r1, r2, r3⟩ := h.update L hm k u
  unfold Oper.wp
  simp [execOp, hop, em, ex, ev, hrun, Result.andThen]
  exact hK' _ _ (hK w' r1 r2 r3)

theorem wp_del (hg : o.guard = none) {m x : Operand} {kt' : TypeId} (hop : o.op = Op.call { callee := Callee.builtin Builtin.delete, args := #[m, x], argTypes := #[mt, kt'] }) (L : KL P kt kv) (hm : P.underlying mt = some (.map kt et))
    {b n : Nat} {f : K → Option Value} (h : MapF kv w b f n) (em : a.eval m = .map (some b)) {k : K} (ex : a.eval x = kv k)
    (hK : ∀ w', MapF kv w' b (updF f k none) (if (f k).isSome then n - 1 else n) → Fr (fun i => i = b) w w' → w'.heap.size = w.heap.size → wpList P ops Q rest (a.put o.dst (.tuple #[])) w') : wpList P ops Q (o :: rest) a w := by
  refine wpList_plain hg fun K' hK' => ?_
  obtain ⟨w', hrun, r1, r2, r3⟩ := h.delete (ty := o.type) (kt' := kt') L hm k
  unfold Oper.wp
  simp [execOp, hop, resolve, invoke, builtin, em, ex, hrun, Result.andThen]
  exact hK' _ _ (hK w' r1 r2 r3)

theorem wp_delR (hg : o.guard = none) {m x : Operand} {kt' : TypeId} (hop : o.op = Op.call { callee := Callee.builtin Builtin.delete, args := #[m, x], argTypes := #[mt, kt'] }) (L : KL P kt kv) (hm : P.underlying mt = some (.map kt et))
    {b r : Nat} {f : K → Option Value} {left : List K} (h : Ranges kv w b r f left) (em : a.eval m = .map (some b)) {k : K} (ex : a.eval x = kv k)
    (hK : ∀ w', Ranges kv w' b r (updF f k none) (left.filter (· ≠ k)) → Fr (fun i => i = b) w w' → w'.heap.size = w.heap.size → wpList P ops Q rest (a.put o.dst (.tuple #[])) w') : wpList P ops Q (o :: rest) a w := by
  refine wpList_plain hg fun K' hK' => ?_
  obtain ⟨w', hrun, r1, r2, r3⟩ := h.delete (ty := o.type) (kt' := kt') L hm k
  unfold Oper.wp
  simp [execOp, hop, resolve, invoke, builtin, em, ex, hrun, Result.andThen]
  exact hK' _ _ (hK w' r1 r2 r3)

theorem wp_updR (hg : o.guard = none) {m x v : Operand} (hop : o.op = Op.mapUpdate mt m x v) (L : KL P kt kv) (hm : P.underlying mt = some (.map kt et))
    {b r : Nat} {f : K → Option Value} {left : List K} (h : Ranges kv w b r f left) (em : a.eval m = .map (some b)) {k : K} (ex : a.eval x = kv k) {u : Value} (ev : a.eval v = u) (hk : (f k).isSome = true)
    (hK : ∀ w', Ranges kv w' b r (updF f k (some u)) left → Fr (fun i => i = b) w w' → w'.heap.size = w.heap.size → wpList P ops Q rest (a.put o.dst undef) w') : wpList P ops Q (o :: rest) a w := by
  refine wpList_plain hg fun K' hK' => ?_
  obtain ⟨w', hrun, r1, r2, r3⟩ := h.update L hm k u hk
  unfold Oper.wp
  simp [execOp, hop, em, ex, ev, hrun, Result.andThen]
  exact hK' _ _ (hK w' r1 r2 r3)

omit [DecidableEq K] in
theorem wp_len [DecidableEq K] (hg : o.guard = none) {m : Operand} (hop : o.op = Op.call { callee := Callee.builtin Builtin.len, args := #[m], argTypes := #[mt] }) (hm : P.underlying mt = some (.map kt et))
    {b n : Nat} {f : K → Option Value} (h : MapF kv w b f n) (em : a.eval m = .map (some b))
    (hK : wpList P ops Q rest (a.put o.dst (.int .i64 (n : Int))) w) : wpList P ops Q (o :: rest) a w := by
  refine wpList_plain hg fun K' hK' => ?_
  have hrun := h.len (ty := o.type) hm
  unfold Oper.wp
  simp [execOp, hop, resolve, invoke, builtin, em, hrun, Result.andThen]
  exact hK' _ _ hK

theorem wp_clear (hg : o.guard = none) {m : Operand} (hop : o.op = Op.call { callee := Callee.builtin Builtin.clear, args := #[m], argTypes := #[mt] }) (hm : P.underlying mt = some (.map kt et))
    {b n : Nat} {f : K → Option Value} (h : MapF kv w b f n) (em : a.eval m = .map (some b))
    (hK : ∀ w', MapF kv w' b (fun _ => none) 0 → Fr (fun i => i = b) w w' → w'.heap.size = w.heap.size → wpList P ops Q rest (a.put o.dst (.tuple #[])) w') : wpList P ops Q (o :: rest) a w := by
  refine wpList_plain hg fun K' hK' => ?_
  obtain ⟨w', hrun, r1, r2, r3⟩ := h.clear (ty := o.type) hm
  unfold Oper.wp
  simp [execOp, hop, resolve, invoke, builtin, em, hrun, Result.andThen]
  exact hK' _ _ (hK w' r1 r2 r3)

theorem wp_range (hg : o.guard = none) {m : Operand} (hop : o.op = Op.range mt m) (hm : P.underlying mt = some (.map kt et))
    {b n : Nat} {f : K → Option Value} (h : MapF kv w b f n) (em : a.eval m = .map (some b))
    (hK : ∀ w' left, Ranges kv w' b w.heap.size f left → left.length = n → (∀ k, k ∈ left ↔ (f k).isSome = true) → Fr (fun _ => False) w w' → w'.heap.size = w.heap.size + 1 → wpList P ops Q rest (a.put o.dst (.pointer (some ⟨w.heap.size, 0, none⟩))) w') : wpList P ops Q (o :: rest) a w := by
  refine wpList_plain hg fun K' hK' => ?_
  obtain ⟨w', left, hrun, r1, r2, r3, r4, r5⟩ := run_range (P := P) hm h
  unfold Oper.wp
  simp [execOp, hop, em, hrun, Result.andThen]
  exact hK' _ _ (hK w' left r1 r2 r3 r4 r5)

theorem wp_next (hg : o.guard = none) {it : Operand} (hop : o.op = Op.next it false) {b r : Nat} {f : K → Option Value} {left : List K} (h : Ranges kv w b r f left) (ei : a.eval it = .pointer (some ⟨r, 0, none⟩))
    (hDone : left = [] → wpList P ops Q rest (a.put o.dst (.tuple #[.bool false])) w)
    (hMore : ∀ k v w', k ∈ left → f k = some v → (Instr.entry (.pointer (some ⟨r, 0, none⟩))).run P w' = .ok (.tuple #[kv k, v]) w' → Ranges kv w' b r f (left.filter (· ≠ k)) → Fr (fun i => i = r) w w' → w'.heap.size = w.heap.size →
      wpList P ops Q rest (a.put o.dst (.tuple #[.bool true, kv k, v])) w') : wpList P ops Q (o :: rest) a w := by
  refine wpList_plain hg fun K' hK' => ?_
  unfold Oper.wp
  rcases h.next (P := P) o.type with ⟨h0, hrun⟩ | ⟨k, v, w', hk, hv, hrun, hen, hrg, hfr, hsz⟩
  · simp [execOp, hop, ei, hrun, Result.andThen]
    exact hK' _ _ (hDone h0)
  · simp [execOp, hop, ei, hrun, Result.andThen]
    exact hK' _ _ (hMore k v w' hk hv hen hrg hfr hsz)

end maps
end Go.Proofs.Qxb6500450aGreat
