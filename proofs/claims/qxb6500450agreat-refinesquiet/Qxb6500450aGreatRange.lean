/- Ranging over a map, in whatever order: what is still to come. -/
import Derived.Test.Qxb6500450aGreatMaps
import Derived.Maps.RangeRun
import Derived.Maps.Range
namespace Go.Proofs.Qxb6500450aGreat
open Go Go.RowKit
open Go.ChangeMaps (setBlock)
set_option linter.unusedSimpArgs false
set_option linter.unusedVariables false

section maps
variable {K : Type} [DecidableEq K]

def uns (seen : Array Nat) (n : Nat) : Bool := !seen.contains n
def leftL {K : Type} (l : List (Ent K)) (seen : Array Nat) : List K := (l.filter fun e => uns seen e.born).map (·.key)

theorem uns_push (seen : Array Nat) (n m : Nat) : uns (seen.push n) m = (uns seen m && decide (m ≠ n)) := by
  unfold uns
  rw [Array.contains_push]
  by_cases h : m = n
  · subst h; simp
  · simp [h, Ne.symm h, fun e => h (Eq.symm e)]

theorem inj_of_nodup {α β : Type} {g : α → β} : ∀ {l : List α}, (l.map g).Nodup → ∀ {x y : α}, x ∈ l → y ∈ l → g x = g y → x = y
  | [], _, _, _, hx, _, _ => by simp at hx
  | a :: l, hn, x, y, hx, hy, h => by
    simp only [List.map_cons, List.nodup_cons] at hn
    rcases List.mem_cons.1 hx with rfl | hx'
    · rcases List.mem_cons.1 hy with rfl | hy'
      · rfl
      · exact absurd (h ▸ List.mem_map_of_mem hy') hn.1
    · rcases List.mem_cons.1 hy with rfl | hy'
      · exact absurd (h ▸ List.mem_map_of_mem hx') hn.1
      · exact inj_of_nodup hn.2 hx' hy' h

structure Ranges (kv : K → Value) (w : World) (b r : Nat) (f : K → Option Value) (left : List K) : Prop where
  inn : ∃ l clock since seen c0, MapIs kv w b l clock ∧ Good l clock ∧ (∀ k, look l k = f k) ∧ w.heap[r]? = some (.mapIter (some b) since seen c0) ∧ (∀ e ∈ l, e.born < since) ∧ since ≤ c0 ∧ since ≤ clock ∧ left = leftL l seen

omit [DecidableEq K] in
theorem leftOf_toList (kv : K → Value) (l : List (Ent K)) (seen : Array Nat) : (leftOf (l.map (·.me kv)).toArray seen).toList = ((l.filter fun e => uns seen e.born).map (·.me kv)) := by
  unfold leftOf
  rw [Array.toList_filter]
  simp only [List.filter_map]
  rfl

theorem Ranges.left_eq {kv : K → Value} {w : World} {b r : Nat} {f : K → Option Value} {left : List K} (h : Ranges kv w b r f left) : w.rangeLeft b r = left.length := by
  obtain ⟨l, clock, since, seen, c0, h1, h2, h3, h4, h5, h6, h7, rfl⟩ := h
  unfold MapIs at h1
  simp only [World.rangeLeft, h1, h4]
  rw [← Array.length_toList, leftOf_toList kv l seen]
  simp [leftL]

theorem Ranges.ne {kv : K → Value} {w : World} {b r : Nat} {f : K → Option Value} {left : List K} (h : Ranges kv w b r f left) : r ≠ b := by
  obtain ⟨l, clock, since, seen, c0, h1, h2, h3, h4, _⟩ := h
  unfold MapIs at h1
  rintro rfl
  rw [h1] at h4
  cases h4

theorem Ranges.lt {kv : K → Value} {w : World} {b r : Nat} {f : K → Option Value} {left : List K} (h : Ranges kv w b r f left) : b < w.heap.size ∧ r < w.heap.size := by
  obtain ⟨l, clock, since, seen, c0, h1, h2, h3, h4, _⟩ := h
  exact ⟨block_lt h1, block_lt h4⟩

theorem Ranges.fr {kv : K → Value} {w w' : World} {b r : Nat} {f : K → Option Value} {left : List K} (h : Ranges kv w b r f left) {S : Nat → Prop} (hf : Fr S w w') (hb : ¬ S b) (hr : ¬ S r) : Ranges kv w' b r f left := by
  obtain ⟨hb', hr'⟩ := h.lt
  obtain ⟨l, clock, since, seen, c0, h1, h2, h3, h4, h5⟩ := h
  exact ⟨l, clock, since, seen, c0, by unfold MapIs at *; rw [hf.block b hb' hb]; exact h1, h2, h3, by rw [hf.block r hr' hr]; exact h4, h5⟩

theorem Ranges.map {kv : K → Value} {w : World} {b r : Nat} {f : K → Option Value} {left : List K} (h : Ranges kv w b r f left) : ∃ n, MapF kv w b f n := by
  obtain ⟨l, clock, since, seen, c0, h1, h2, h3, h4, h5⟩ := h
  exact ⟨_, l, clock, h1, h2, h3, rfl⟩

omit [DecidableEq K] in
theorem leftL_sub (l : List (Ent K)) (seen : Array Nat) : (leftL l seen).Sublist (l.map (·.key)) := (List.filter_sublist).map _

theorem Ranges.nodup {kv : K → Value} {w : World} {b r : Nat} {f : K → Option Value} {left : List K} (h : Ranges kv w b r f left) : left.Nodup := by
  obtain ⟨l, clock, since, seen, c0, h1, h2, h3, h4, _, _, _, rfl⟩ := h
  exact h2.keys.sublist (leftL_sub l seen)

/-- Whatever is still to come is there. -/
theorem Ranges.here {kv : K → Value} {w : World} {b r : Nat} {f : K → Option Value} {left : List K} (h : Ranges kv w b r f left) {k : K} (hk : k ∈ left) : (f k).isSome = true := by
  obtain ⟨l, clock, since, seen, c0, h1, h2, h3, h4, _, _, _, rfl⟩ := h
  obtain ⟨e, he, rfl⟩ := List.mem_map.1 ((leftL_sub l seen).subset hk)
  rw [← h3, look_of_mem h2.keys he]
  rfl

theorem run_range {P : Program} {mt kt et : TypeId} {kv : K → Value} (hm : P.underlying mt = some (.map kt et)) {w : World} {b n : Nat} {f : K → Option Value} (h : MapF kv w b f n) :
    ∃ w' left, (Instr.range mt (.map (some b))).run P w = .ok (.pointer (some ⟨w.heap.size, 0, none⟩)) w' ∧ Ranges kv w' b w.heap.size f left ∧ left.length = n ∧ (∀ k, k ∈ left ↔ (f k).isSome = true) ∧ Fr (fun _ => False) w w' ∧ w'.heap.size = w.heap.size + 1 := by
  have hlt := h.lt
  obtain ⟨l, clock, h1, h2, h3, h4⟩ := h
  have h1' := h1
  unfold MapIs at h1
  refine ⟨_, _, run_range_map w mt kt et b _ clock hm h1, ⟨l, clock, clock, #[], clock, ?_, h2, h3, (MapKept.heap_alloc w _).1, h2.lt, Nat.le_refl _, Nat.le_refl _, rfl⟩, ?_, ?_, ?_, ?_⟩
  · exact ((MapKept.heap_alloc w _).2 b hlt).trans h1
  · have e0 : ∀ l : List (Ent K), leftL l #[] = l.map (·.key) := fun l => by unfold leftL; rw [List.filter_eq_self.2 (fun x _ => show uns #[] x.born = true by simp [uns])]
    rw [e0, List.length_map]; exact h4
  · intro k
    rw [← h3]
    have e0 : leftL l #[] = l.map (·.key) := by unfold leftL; rw [List.filter_eq_self.2 (fun x _ => show uns #[] x.born = true by simp [uns])]
    rw [e0]
    simp only [List.mem_map]
    constructor
    · rintro ⟨e, he, rfl⟩
      rw [look_of_mem h2.keys (by simpa using he)]
      rfl
    · intro hk
      cases hl : look l k with
      | none => rw [hl] at hk; cases hk
      | some v =>
        obtain ⟨e, he, hk', _⟩ := look_mem hl
        exact ⟨e, by simpa using he, hk'⟩
  · exact ⟨rfl, rfl, rfl, by simp, fun k hk _ => (MapKept.heap_alloc w _).2 k hk⟩
  · simp

theorem left_push {l : List (Ent K)} {clock : Nat} (h : Good l clock) (seen : Array Nat) {e : Ent K} (he : e ∈ l) : leftL l (seen.push e.born) = (leftL l seen).filter (· ≠ e.key) := by
  unfold leftL
  rw [List.filter_map, List.filter_filter]
  congr 1
  apply List.filter_congr
  intro x hx
  have : (x.born = e.born) ↔ (x.key = e.key) := by
    constructor
    · intro hb
      have hp := h.born
      exact congrArg _ (inj_of_nodup hp hx he hb)
    · intro hb
      exact congrArg _ (inj_of_nodup h.keys hx he hb)
  simp only [Function.comp, uns_push]
  by_cases hk : x.key = e.key
  · have := this.2 hk
    simp [hk, this]
  · have : ¬ x.born = e.born := fun hh => hk (this.1 hh)
    simp [hk, this]

theorem Ranges.next {P : Program} {kv : K → Value} {w : World} {b r : Nat} {f : K → Option Value} {left : List K} (h : Ranges kv w b r f left) (ty : TypeId) :
    (left = [] ∧ (Instr.next (.pointer (some ⟨r, 0, none⟩)) false ty).run P w = .ok (.tuple #[.bool false]) w) ∨
    ∃ k v w', k ∈ left ∧ f k = some v ∧ (Instr.next (.pointer (some ⟨r, 0, none⟩)) false ty).run P w = .ok (.tuple #[.bool true, kv k, v]) w' ∧
      (Instr.entry (.pointer (some ⟨r, 0, none⟩))).run P w' = .ok (.tuple #[kv k, v]) w' ∧ Ranges kv w' b r f (left.filter (· ≠ k)) ∧ Fr (fun i => i = r) w w' ∧ w'.heap.size = w.heap.size := by
  have hne := h.ne
  obtain ⟨l, clock, since, seen, c0, h1, h2, h3, h4, h5, h6, h7, rfl⟩ := h
  have h1' := h1
  unfold MapIs at h1
  have hold : ∀ x ∈ (l.map (·.me kv)).toArray.toList, x.born < since := by
    intro x hx
    simp only [List.mem_map] at hx
    obtain ⟨e, he, rfl⟩ := hx
    exact h5 e he
  rcases run_next_at (P := P) w ty r b since c0 seen _ clock h4 h1 hold h6 with ⟨h0, hrun⟩ | ⟨e, he, w1, hal, hrun⟩
  · refine Or.inl ⟨?_, hrun⟩
    rw [← Array.length_toList, leftOf_toList kv l seen] at h0
    have : leftL l seen = [] := by
      apply List.eq_nil_of_length_eq_zero
      simpa [leftL] using h0
    exact this
  · rw [leftOf_toList kv l seen] at he
    obtain ⟨x, hx, rfl⟩ := List.mem_map.1 he
    have hxl : x ∈ l := (List.mem_filter.1 hx).1
    have hr1 : w1.heap[r]? = some (.mapIter (some b) since seen c0) := by rcases hal with rfl | rfl <;> exact h4
    have hb1 : w1.heap[b]? = some (.map (l.map (·.me kv)).toArray clock) := by rcases hal with rfl | rfl <;> exact h1
    have hset := MapKept.heap_set (o' := .mapIter (some b) since (seen.push x.born) clock) hr1
    have hb' : (setBlock w1 r (.mapIter (some b) since (seen.push x.born) clock)).heap[b]? = some (.map (l.map (·.me kv)).toArray clock) := (hset.2 b (fun e1 => hne e1.symm)).trans hb1
    refine Or.inr ⟨x.key, x.val, _, List.mem_map_of_mem hx, by rw [← h3, look_of_mem h2.keys hxl], hrun, ?_, ⟨l, clock, since, seen.push x.born, clock, hb', h2, h3, hset.1, h5, h7, h7, (left_push h2 seen hxl).symm⟩, ?_, ?_⟩
    · refine run_entry_at _ r b since seen _ clock (x.me kv) hset.1 hb' ?_ ?_
      · simp only [List.mem_map]; exact ⟨x, hxl, rfl⟩
      · simpa [Ent.me, Function.comp_def] using h2.born
    · rcases hal with rfl | rfl <;> exact ⟨rfl, rfl, rfl, by simp [setBlock], fun i _ hi => hset.2 i hi⟩
    · rcases hal with rfl | rfl <;> simp [setBlock]

omit [DecidableEq K] in
theorem leftL_cons (e : Ent K) (l : List (Ent K)) (seen : Array Nat) : leftL (e :: l) seen = if uns seen e.born then e.key :: leftL l seen else leftL l seen := by
  unfold leftL
  rw [List.filter_cons]
  split <;> rfl

theorem leftL_delL {l : List (Ent K)} (hn : (l.map (·.key)).Nodup) (seen : Array Nat) (k : K) : leftL (delL l k) seen = (leftL l seen).filter (· ≠ k) := by
  induction l with
  | nil => rfl
  | cons e l ih =>
    simp only [List.map_cons, List.nodup_cons] at hn
    by_cases hk : e.key = k
    · simp only [delL, hk, if_true, leftL_cons]
      have h1 : (leftL l seen).filter (· ≠ k) = leftL l seen := by
        apply List.filter_eq_self.2
        intro x hx
        have := (leftL_sub l seen).subset hx
        simp only [ne_eq, decide_not, Bool.not_eq_true', decide_eq_false_iff_not]
        rintro rfl
        exact hn.1 (hk ▸ this)
      split
      · rw [List.filter_cons_of_neg (by simp), h1]
      · exact h1.symm
    · simp only [delL, hk, if_false, leftL_cons, ih hn.2]
      split
      · rw [List.filter_cons_of_pos (by simpa using hk)]
      · rfl

theorem Ranges.delete {P : Program} {mt kt et ty kt' : TypeId} {kv : K → Value} (L : KL P kt kv) (hm : P.underlying mt = some (.map kt et)) {w : World}
    {b r : Nat} {f : K → Option Value} {left : List K} (h : Ranges kv w b r f left) (k : K) :
    ∃ w', (Builtin.delete_ #[mt, kt'] ty #[.map (some b), kv k]).run P w = .ok (.tuple #[]) w' ∧ Ranges kv w' b r (updF f k none) (left.filter (· ≠ k)) ∧ Fr (fun i => i = b) w w' ∧ w'.heap.size = w.heap.size := by
  have hne := h.ne
  obtain ⟨hb, hr⟩ := h.lt
  obtain ⟨l, clock, since, seen, c0, h1, h2, h3, h4, h5, h6, h7, rfl⟩ := h
  refine ⟨_, run_delete L hm h1 k, ⟨_, clock, since, seen, c0, putO_same _ hb, ⟨h2.keys.sublist ((delL_sub k l).map _), h2.born.sublist ((delL_sub k l).map _), fun e he => h2.lt e ((delL_sub k l).subset he)⟩, fun j => ?_, (putO_other _ hne).trans h4, fun e he => h5 e ((delL_sub k l).subset he), h6, h7, (leftL_delL h2.keys seen k).symm⟩, putO_fr _ _ _, putO_size _ _ _⟩
  rw [look_delL k l j h2.keys, h3 j]; rfl

theorem leftL_updL (seen : Array Nat) (k : K) (v : Value) : ∀ l : List (Ent K), leftL (updL l k v) seen = leftL l seen
  | [] => rfl
  | e :: l => by
    simp only [updL]
    split
    · rename_i hk
      rw [leftL_cons, leftL_cons, hk]
    · rw [leftL_cons, leftL_cons, leftL_updL seen k v l]

/-- A store at a key that is there, in the round. -/
theorem Ranges.update {P : Program} {mt kt et : TypeId} {kv : K → Value} (L : KL P kt kv) (hm : P.underlying mt = some (.map kt et)) {w : World}
    {b r : Nat} {f : K → Option Value} {left : List K} (h : Ranges kv w b r f left) (k : K) (v : Value) (hk : (f k).isSome = true) :
    ∃ w', (Instr.mapUpdate mt (.map (some b)) (kv k) v).run P w = .ok () w' ∧ Ranges kv w' b r (updF f k (some v)) left ∧ Fr (fun i => i = b) w w' ∧ w'.heap.size = w.heap.size := by
  have hne := h.ne
  obtain ⟨hb, hr⟩ := h.lt
  obtain ⟨l, clock, since, seen, c0, h1, h2, h3, h4, h5, h6, h7, rfl⟩ := h
  have hs : (look l k).isSome = true := by rw [h3]; exact hk
  have hp := putL_good h2 k v
  have e1 : putL l k v clock = updL l k v := by unfold putL; rw [if_pos hs]
  have e2 : putC l k clock = clock := by unfold putC; rw [if_pos hs]
  rw [e1, e2] at hp
  refine ⟨_, run_mapUpdate L hm h1 k v, ⟨_, clock, since, seen, c0, ?_, hp, fun j => ?_, (putO_other _ hne).trans h4, ?_, h6, h7, (leftL_updL seen k v l).symm⟩, putO_fr _ _ _, putO_size _ _ _⟩
  · rw [e1, e2]; exact putO_same _ hb
  · rw [look_updL k v l j hs, h3 j]; rfl
  · intro e he
    have : e.born ∈ l.map (·.born) := by rw [← updL_born k v l]; exact List.mem_map_of_mem he
    obtain ⟨e', h8, h9⟩ := List.mem_map.1 this
    rw [← h9]; exact h5 e' h8

end maps

/-! ### Keys that are ints -/
def ik (k : Int) : Value := .int .i64 k

theorem ik_law {P : Program} {kt : TypeId} (h : P.underlying kt = some (.int .i64)) : KL P kt ik := by
  refine ⟨fun l k w => run_findKey_now h (fun a b => ?_) l k w, fun e a w => ?_, fun a => ?_⟩
  · simp only [Instr.sameNow, ik, if_true]
    by_cases hab : b = a
    · subst hab; simp
    · simp [hab]; exact fun e => hab e.symm
  · have : ∀ n, (Instr.checkKey e (n + 1) kt (ik a)).run P w = .ok () w := fun n => by
      simp only [Instr.checkKey, Sem.run_bind, run_underlying h, Result.andThen_ok, ik]
      rfl
    exact this 9999
  · simp [Instr.sameBits, ik]

end Go.Proofs.Qxb6500450aGreat
