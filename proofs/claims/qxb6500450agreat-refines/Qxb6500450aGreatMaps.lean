/- Maps: what they hold, key by key; every operation on them; ranging over them in whatever order. -/
import Derived.Test.Qxb6500450aGreatBase
namespace Go.Proofs.Qxb6500450aGreat
open Go Go.RowKit
set_option linter.unusedSimpArgs false
set_option linter.unusedVariables false

structure Ent (K : Type) where
  key : K
  val : Value
  born : Nat

section maps
variable {K : Type} [DecidableEq K]

def Ent.me (kv : K → Value) (e : Ent K) : MapEntry := ⟨kv e.key, e.val, e.born⟩

def look : List (Ent K) → K → Option Value
  | [], _ => none
  | e :: l, k => if e.key = k then some e.val else look l k

def fnd : List (Ent K) → K → Nat → Option (Nat × Value)
  | [], _, _ => none
  | e :: l, k, i => if e.key = k then some (i, e.val) else fnd l k (i + 1)

def updL : List (Ent K) → K → Value → List (Ent K)
  | [], _, _ => []
  | e :: l, k, v => if e.key = k then ⟨k, v, e.born⟩ :: l else e :: updL l k v

def delL : List (Ent K) → K → List (Ent K)
  | [], _ => []
  | e :: l, k => if e.key = k then l else e :: delL l k

theorem findNow_eq {d : TypeDesc} {kv : K → Value} (h : ∀ a b, Instr.sameNow d (kv a) (kv b) = some (decide (b = a))) (k : K) :
    ∀ (l : List (Ent K)) (i : Nat), Instr.findNow d (kv k) (l.map (·.me kv)) i = some (fnd l k i)
  | [], _ => rfl
  | e :: l, i => by
    simp only [List.map_cons, Instr.findNow, Ent.me, h, fnd]
    by_cases hk : e.key = k
    · simp [hk]
    · simp only [hk, decide_false, if_false]
      exact findNow_eq h k l (i + 1)

theorem run_findKey_now {P : Program} {kt : TypeId} {kv : K → Value} {d : TypeDesc} (hd : P.underlying kt = some d) (hs : ∀ a b, Instr.sameNow d (kv a) (kv b) = some (decide (b = a))) (l : List (Ent K)) (k : K) (w : World) :
    (Instr.findKey kt (kv k) (l.map (·.me kv))).run P w = .ok (fnd l k 0) w := by
  simp only [Instr.findKey, Sem.run_bind, run_underlying hd, Result.andThen_ok, findNow_eq hs]
  rfl

/-- What the walk must know of a key's type. -/
structure KL (P : Program) (kt : TypeId) (kv : K → Value) : Prop where
  find : ∀ (l : List (Ent K)) (k : K) (w : World), (Instr.findKey kt (kv k) (l.map (·.me kv))).run P w = .ok (fnd l k 0) w
  chk : ∀ (e : Bool) (a : K) (w : World), (Instr.checkKey e 10000 kt (kv a)).run P w = .ok () w
  bits : ∀ a, Instr.sameBits 10000 (kv a) (kv a) = true

theorem fnd_look (k : K) : ∀ (l : List (Ent K)) (i : Nat), (fnd l k i).map (·.2) = look l k
  | [], _ => rfl
  | e :: l, i => by
    simp only [fnd, look]
    split
    · rfl
    · exact fnd_look k l (i + 1)

theorem fnd_none {k : K} {l : List (Ent K)} {i : Nat} : fnd l k i = none ↔ look l k = none := by
  rw [← fnd_look k l i]; simp

/-- Block b is a map with the entries l. -/
def MapIs (kv : K → Value) (w : World) (b : Nat) (l : List (Ent K)) (clock : Nat) : Prop := w.heap[b]? = some (.map (l.map (·.me kv)).toArray clock)

theorem run_getObj {P : Program} {α : Type} {w : World} {b : Nat} {es : Array MapEntry} {c : Nat} (h : w.heap[b]? = some (.map es c)) (f : Obj → Sem α) : (Sem.bind (getObj b) f).run P w = (f (.map es c)).run P w := by
  simp [getObj, Sem.bind, Sem.run, h]

theorem run_lookup {P : Program} {mt kt et : TypeId} {kv : K → Value} (L : KL P kt kv) (hm : P.underlying mt = some (.map kt et)) {z : Value} {w : World} (hz : (zeroValue et).run P w = .ok z w)
    {b : Nat} {l : List (Ent K)} {clock : Nat} (h : MapIs kv w b l clock) (k : K) (c : Bool) :
    (Instr.lookup mt (.map (some b)) (kv k) c).run P w = .ok (if c then .tuple #[(look l k).getD z, .bool (look l k).isSome] else (look l k).getD z) w := by
  unfold MapIs at h
  have hf := L.find l k w
  have hl := fnd_look k l 0
  simp only [Instr.lookup, Sem.run_bind, run_underlying hm, Result.andThen_ok]
  simp only [getObj, Sem.run, h, Sem.run_bind, Result.andThen_ok, L.chk, hf, Sem.run_pure]
  cases hc : fnd l k 0 with
  | none =>
    rw [hc] at hl
    simp only [Option.map_none] at hl
    simp [hz, ← hl, Sem.run_pure]
  | some p =>
    rw [hc] at hl
    simp only [Option.map_some] at hl
    simp [← hl, Sem.run_pure]

/-! ### What an update leaves -/
def putO (w : World) (b : Nat) (o : Obj) : World := { w with heap := w.heap.setIfInBounds b o }

theorem putO_same {w : World} {b : Nat} (o : Obj) (h : b < w.heap.size) : (putO w b o).heap[b]? = some o := by
  simp [putO, Array.getElem?_setIfInBounds, h]

theorem putO_other {w : World} {b k : Nat} (o : Obj) (h : k ≠ b) : (putO w b o).heap[k]? = w.heap[k]? := by
  simp only [putO, Array.getElem?_setIfInBounds]
  rw [if_neg (by omega)]

theorem putO_size (w : World) (b : Nat) (o : Obj) : (putO w b o).heap.size = w.heap.size := by simp [putO]

theorem putO_fr (w : World) (b : Nat) (o : Obj) : Fr (fun i => i = b) w (putO w b o) :=
  ⟨rfl, rfl, rfl, by rw [putO_size]; exact Nat.le_refl _, fun k _ hk => putO_other o hk⟩

theorem block_lt {w : World} {b : Nat} {o : Obj} (h : w.heap[b]? = some o) : b < w.heap.size := by
  rcases Nat.lt_or_ge b w.heap.size with h' | h'
  · exact h'
  · rw [Array.getElem?_eq_none h'] at h; cases h

theorem run_setObj {P : Program} {w : World} {b : Nat} {es : Array MapEntry} {c : Nat} (h : w.heap[b]? = some (.map es c)) (o : Obj) : (setObj b o).run P w = .ok () (putO w b o) := by
  simp [setObj, Sem.run, h, putO]

theorem updL_modify (kv : K → Value) (k : K) (v : Value) : ∀ (l : List (Ent K)) (i j : Nat) (u : Value), fnd l k i = some (j, u) →
    (l.map (·.me kv)).modify (j - i) (fun e => { e with key := kv k, val := v }) = (updL l k v).map (·.me kv) ∧ i ≤ j ∧ j - i < l.length ∧ ((l.map (·.me kv))[j - i]?).map (·.key) = some (kv k)
  | [], i, j, u, h => by simp [fnd] at h
  | e :: l, i, j, u, h => by
    simp only [fnd] at h
    split at h
    · rename_i hk
      simp only [Option.some.injEq, Prod.mk.injEq] at h
      obtain ⟨rfl, rfl⟩ := h
      simp [updL, hk, List.modify, Ent.me]
    · rename_i hk
      obtain ⟨h1, h2, h3, h4⟩ := updL_modify kv k v l (i + 1) j u h
      have e1 : j - i = (j - (i + 1)) + 1 := by omega
      rw [e1]
      refine ⟨?_, by omega, by simp; omega, by simpa using h4⟩
      simp only [updL, hk, if_false, List.map_cons, List.modify_succ_cons, h1]

theorem delL_erase (kv : K → Value) (k : K) : ∀ (l : List (Ent K)) (i j : Nat) (u : Value), fnd l k i = some (j, u) →
    (l.map (·.me kv)).eraseIdx (j - i) = (delL l k).map (·.me kv) ∧ i ≤ j
  | [], i, j, u, h => by simp [fnd] at h
  | e :: l, i, j, u, h => by
    simp only [fnd] at h
    split at h
    · rename_i hk
      simp only [Option.some.injEq, Prod.mk.injEq] at h
      obtain ⟨rfl, rfl⟩ := h
      simp [delL, hk]
    · rename_i hk
      obtain ⟨h1, h2⟩ := delL_erase kv k l (i + 1) j u h
      have e1 : j - i = (j - (i + 1)) + 1 := by omega
      rw [e1]
      refine ⟨?_, by omega⟩
      simp only [delL, hk, if_false, List.map_cons, List.eraseIdx_cons_succ, h1]

def putL (l : List (Ent K)) (k : K) (v : Value) (clock : Nat) : List (Ent K) := if (look l k).isSome then updL l k v else l ++ [⟨k, v, clock⟩]
def putC (l : List (Ent K)) (k : K) (clock : Nat) : Nat := if (look l k).isSome then clock else clock + 1

theorem run_mapUpdate {P : Program} {mt kt et : TypeId} {kv : K → Value} (L : KL P kt kv) (hm : P.underlying mt = some (.map kt et)) {w : World}
    {b : Nat} {l : List (Ent K)} {clock : Nat} (h : MapIs kv w b l clock) (k : K) (v : Value) :
    (Instr.mapUpdate mt (.map (some b)) (kv k) v).run P w = .ok () (putO w b (.map ((putL l k v clock).map (·.me kv)).toArray (putC l k clock))) := by
  unfold MapIs at h
  have hf := L.find l k w
  have hl := fnd_look k l 0
  simp only [Instr.mapUpdate, Sem.run_bind, run_underlying hm, Result.andThen_ok]
  simp only [getObj, Sem.run, h, Sem.run_bind, Result.andThen_ok, L.chk, hf]
  cases hc : fnd l k 0 with
  | none =>
    rw [hc] at hl
    simp only [Option.map_none] at hl
    simp only [putL, putC, ← hl]
    rw [run_setObj h]
    simp [Ent.me]
  | some p =>
    obtain ⟨j, u⟩ := p
    rw [hc] at hl
    simp only [Option.map_some] at hl
    obtain ⟨h1, _, h3, h4⟩ := updL_modify kv k v l 0 j u hc
    simp only [Nat.sub_zero] at h1 h3 h4
    have hkey : ((((l.map (·.me kv)).toArray[j]?).map (·.key)).getD (kv k)) = kv k := by
      have : (l.map (·.me kv)).toArray[j]? = (l.map (·.me kv))[j]? := by simp
      rw [this, h4]
      rfl
    simp only [hkey, Instr.keyThatStays, L.bits, if_true, Sem.run_bind, Sem.run_pure, Result.andThen_ok]
    rw [run_setObj h]
    have ha : (l.map (·.me kv)).toArray.modify j (fun e => { e with key := kv k, val := v }) = ((updL l k v).map (·.me kv)).toArray := by
      apply Array.ext'
      rw [Array.toList_modify]
      simpa using h1
    rw [ha]
    simp [putL, putC, ← hl]

theorem run_delete {P : Program} {mt kt et ty : TypeId} {kt' : TypeId} {kv : K → Value} (L : KL P kt kv) (hm : P.underlying mt = some (.map kt et)) {w : World}
    {b : Nat} {l : List (Ent K)} {clock : Nat} (h : MapIs kv w b l clock) (k : K) :
    (Builtin.delete_ #[mt, kt'] ty #[.map (some b), kv k]).run P w = .ok (.tuple #[]) (putO w b (.map ((delL l k).map (·.me kv)).toArray clock)) := by
  unfold MapIs at h
  have hf := L.find l k w
  have hl := fnd_look k l 0
  simp only [Builtin.delete_, List.getElem?_toArray, List.getElem?_cons_zero, List.getElem?_cons_succ, Sem.run_bind, run_underlying hm, Result.andThen_ok]
  simp only [getObj, Sem.run, h, Sem.run_bind, Result.andThen_ok, L.chk, hf]
  cases hc : fnd l k 0 with
  | none =>
    rw [hc] at hl
    have : delL l k = l := by
      clear h hf hc
      simp only [Option.map_none] at hl
      induction l with
      | nil => rfl
      | cons e l ih =>
        simp only [look] at hl
        split at hl
        · cases hl
        · rename_i hk
          simp only [delL, hk, if_false]
          rw [ih hl]
    rw [this]
    simp only [Sem.run_bind, Sem.run_pure]
    rw [run_setObj h]
    rfl
  | some p =>
    obtain ⟨j, u⟩ := p
    obtain ⟨h1, _⟩ := delL_erase kv k l 0 j u hc
    simp only [Nat.sub_zero] at h1
    have ha : (l.map (·.me kv)).toArray.eraseIdxIfInBounds j = ((delL l k).map (·.me kv)).toArray := by
      apply Array.ext'
      rw [Array.toList_eraseIdxIfInBounds]
      simpa using h1
    simp only [Sem.run_bind, Sem.run_pure]
    rw [ha, run_setObj h]
    rfl

/-! ### A map as a function of its keys -/
structure Good (l : List (Ent K)) (clock : Nat) : Prop where
  keys : (l.map (·.key)).Nodup
  born : (l.map (·.born)).Nodup
  lt : ∀ e ∈ l, e.born < clock

/-- Block b is a map of n entries that holds f k at k. -/
def MapF (kv : K → Value) (w : World) (b : Nat) (f : K → Option Value) (n : Nat) : Prop :=
  ∃ l clock, MapIs kv w b l clock ∧ Good l clock ∧ (∀ k, look l k = f k) ∧ l.length = n

def updF (f : K → Option Value) (k : K) (v : Option Value) : K → Option Value := fun j => if j = k then v else f j

theorem look_updL (k : K) (v : Value) : ∀ (l : List (Ent K)) (j : K), (look l k).isSome = true → look (updL l k v) j = if j = k then some v else look l j
  | [], _, h => by simp [look] at h
  | e :: l, j, h => by
    simp only [look] at h
    by_cases hk : e.key = k
    · simp only [updL, hk, if_true, look]
      by_cases hj : j = k
      · subst hj; simp
      · rw [if_neg (fun e => hj e.symm), if_neg hj, if_neg (fun e => hj e.symm)]
    · rw [if_neg hk] at h
      simp only [updL, hk, if_false, look]
      by_cases hj : e.key = j
      · rw [if_pos hj, if_pos hj, if_neg (fun e' => hk (hj.trans e'))]
      · rw [if_neg hj, if_neg hj]
        exact look_updL k v l j h

theorem look_snoc (k : K) (v : Value) (c : Nat) : ∀ (l : List (Ent K)) (j : K), look l k = none → look (l ++ [⟨k, v, c⟩]) j = if j = k then some v else look l j
  | [], j, h => by
    simp only [List.nil_append, look]
    by_cases hj : j = k
    · subst hj; simp
    · rw [if_neg (fun e => hj e.symm), if_neg hj]
  | e :: l, j, h => by
    simp only [look] at h
    split at h
    · cases h
    · rename_i hk
      simp only [List.cons_append, look]
      by_cases hj : e.key = j
      · rw [if_pos hj, if_pos hj, if_neg (fun e' => hk (hj.trans e'))]
      · rw [if_neg hj, if_neg hj]
        exact look_snoc k v c l j h

theorem look_mem {k : K} : ∀ {l : List (Ent K)} {v : Value}, look l k = some v → ∃ e ∈ l, e.key = k ∧ e.val = v
  | [], _, h => by simp [look] at h
  | e :: l, v, h => by
    simp only [look] at h
    split at h
    · rename_i hk
      exact ⟨e, by simp, hk, by simpa using h⟩
    · obtain ⟨e', h1, h2⟩ := look_mem h
      exact ⟨e', by simp [h1], h2⟩

theorem look_of_mem {l : List (Ent K)} (hn : (l.map (·.key)).Nodup) {e : Ent K} (he : e ∈ l) : look l e.key = some e.val := by
  induction l with
  | nil => simp at he
  | cons a l ih =>
    simp only [List.map_cons, List.nodup_cons] at hn
    simp only [look]
    rcases List.mem_cons.1 he with rfl | h
    · simp
    · rw [if_neg (fun e' => hn.1 (by rw [e']; exact List.mem_map_of_mem h))]
      exact ih hn.2 h

theorem look_none {k : K} : ∀ {l : List (Ent K)}, look l k = none → k ∉ l.map (·.key)
  | [], _ => by simp
  | e :: l, h => by
    simp only [look] at h
    split at h
    · cases h
    · rename_i hk
      simp only [List.map_cons, List.mem_cons, not_or]
      exact ⟨fun e' => hk e'.symm, look_none h⟩

theorem updL_keys (k : K) (v : Value) : ∀ l : List (Ent K), (updL l k v).map (·.key) = l.map (·.key)
  | [] => rfl
  | e :: l => by
    simp only [updL]
    split
    · rename_i hk; simp [hk]
    · simp [updL_keys k v l]

theorem updL_born (k : K) (v : Value) : ∀ l : List (Ent K), (updL l k v).map (·.born) = l.map (·.born)
  | [] => rfl
  | e :: l => by
    simp only [updL]
    split
    · simp
    · simp [updL_born k v l]

theorem updL_length (k : K) (v : Value) (l : List (Ent K)) : (updL l k v).length = l.length := by
  have := congrArg List.length (updL_born k v l)
  simpa using this

theorem delL_sub (k : K) : ∀ l : List (Ent K), (delL l k).Sublist l
  | [] => .slnil
  | e :: l => by
    simp only [delL]
    split
    · exact List.sublist_cons_self _ _
    · exact (delL_sub k l).cons_cons _

theorem look_delL (k : K) : ∀ (l : List (Ent K)) (j : K), (l.map (·.key)).Nodup → look (delL l k) j = if j = k then none else look l j
  | [], j, _ => by simp [delL, look]
  | e :: l, j, hn => by
    simp only [List.map_cons, List.nodup_cons] at hn
    by_cases hk : e.key = k
    · simp only [delL, hk, if_true, look]
      by_cases hj : j = k
      · subst hj
        rw [if_pos rfl]
        cases h : look l j with
        | none => rfl
        | some v =>
          obtain ⟨e', h1, h2, _⟩ := look_mem h
          exact absurd (List.mem_map_of_mem (f := (·.key)) h1) (by simp only [h2]; rw [← hk]; exact hn.1)
      · rw [if_neg hj, if_neg (fun e => hj e.symm)]
    · simp only [delL, hk, if_false, look]
      by_cases hj : e.key = j
      · rw [if_pos hj, if_pos hj, if_neg (fun e' => hk (hj.trans e'))]
      · rw [if_neg hj, if_neg hj]
        exact look_delL k l j hn.2

theorem delL_length (k : K) : ∀ l : List (Ent K), (delL l k).length = if (look l k).isSome then l.length - 1 else l.length
  | [] => rfl
  | e :: l => by
    simp only [delL, look]
    split
    · simp
    · have h := delL_length k l
      simp only [List.length_cons, h]
      split
      · rename_i hs
        have : 0 < l.length := by
          cases l with
          | nil => simp [look] at hs
          | cons a l => simp
        omega
      · rfl

theorem putL_good {l : List (Ent K)} {clock : Nat} (h : Good l clock) (k : K) (v : Value) : Good (putL l k v clock) (putC l k clock) := by
  unfold putL putC
  split
  · refine ⟨by rw [updL_keys]; exact h.keys, by rw [updL_born]; exact h.born, fun e he => ?_⟩
    have : e.born ∈ l.map (·.born) := by rw [← updL_born k v l]; exact List.mem_map_of_mem he
    obtain ⟨e', h1, h2⟩ := List.mem_map.1 this
    rw [← h2]; exact h.lt e' h1
  · rename_i hs
    have hn : look l k = none := by simpa using hs
    refine ⟨?_, ?_, ?_⟩
    · rw [List.map_append, List.nodup_append]
      exact ⟨h.keys, by simp, fun a ha b hb => by simp at hb; rw [hb]; exact fun e => look_none hn (e ▸ ha)⟩
    · rw [List.map_append, List.nodup_append]
      refine ⟨h.born, by simp, fun a ha b hb => ?_⟩
      simp at hb
      obtain ⟨e', h1, h2⟩ := List.mem_map.1 ha
      have := h.lt e' h1
      omega
    · intro e he
      rcases List.mem_append.1 he with h1 | h1
      · have := h.lt e h1; omega
      · simp at h1; rw [h1]; simp

theorem MapF.lt {kv : K → Value} {w : World} {b n : Nat} {f : K → Option Value} (h : MapF kv w b f n) : b < w.heap.size := by
  obtain ⟨l, c, h1, _⟩ := h
  exact block_lt h1

theorem MapF.fr {kv : K → Value} {w w' : World} {b n : Nat} {f : K → Option Value} (h : MapF kv w b f n) {S : Nat → Prop} (hf : Fr S w w') (hn : ¬ S b) : MapF kv w' b f n := by
  have hb := h.lt
  obtain ⟨l, c, h1, h2⟩ := h
  exact ⟨l, c, by unfold MapIs at *; rw [hf.block b hb hn]; exact h1, h2⟩

theorem MapF.new (kv : K → Value) (w : World) : MapF kv (w.alloc (.map #[] 0)) w.heap.size (fun _ => none) 0 :=
  ⟨[], 0, by show (w.heap.push _)[_]? = _; simp, ⟨by simp, by simp, by simp⟩, fun _ => rfl, rfl⟩

theorem MapF.lookup {P : Program} {mt kt et : TypeId} {kv : K → Value} (L : KL P kt kv) (hm : P.underlying mt = some (.map kt et)) {z : Value} {w : World} (hz : (zeroValue et).run P w = .ok z w)
    {b n : Nat} {f : K → Option Value} (h : MapF kv w b f n) (k : K) (c : Bool) :
    (Instr.lookup mt (.map (some b)) (kv k) c).run P w = .ok (if c then .tuple #[(f k).getD z, .bool (f k).isSome] else (f k).getD z) w := by
  obtain ⟨l, cl, h1, _, h3, _⟩ := h
  rw [run_lookup L hm hz h1, h3]

theorem MapF.update {P : Program} {mt kt et : TypeId} {kv : K → Value} (L : KL P kt kv) (hm : P.underlying mt = some (.map kt et)) {w : World}
    {b n : Nat} {f : K → Option Value} (h : MapF kv w b f n) (k : K) (v : Value) :
    ∃ w', (Instr.mapUpdate mt (.map (some b)) (kv k) v).run P w = .ok () w' ∧ MapF kv w' b (updF f k (some v)) (if (f k).isSome then n else n + 1) ∧ Fr (fun i => i = b) w w' ∧ w'.heap.size = w.heap.size := by
  have hb := h.lt
  obtain ⟨l, cl, h1, h2, h3, h4⟩ := h
  refine ⟨_, run_mapUpdate L hm h1 k v, ⟨_, _, putO_same _ hb, putL_good h2 k v, fun j => ?_, ?_⟩, putO_fr _ _ _, putO_size _ _ _⟩
  · unfold putL updF
    rw [← h3 j]
    split
    · exact look_updL k v l j ‹_›
    · exact look_snoc k v cl l j (by cases hh : look l k <;> simp_all)
  · unfold putL
    rw [← h3 k]
    split
    · rw [updL_length]; exact h4
    · simp [h4]

theorem MapF.delete {P : Program} {mt kt et ty kt' : TypeId} {kv : K → Value} (L : KL P kt kv) (hm : P.underlying mt = some (.map kt et)) {w : World}
    {b n : Nat} {f : K → Option Value} (h : MapF kv w b f n) (k : K) :
    ∃ w', (Builtin.delete_ #[mt, kt'] ty #[.map (some b), kv k]).run P w = .ok (.tuple #[]) w' ∧ MapF kv w' b (updF f k none) (if (f k).isSome then n - 1 else n) ∧ Fr (fun i => i = b) w w' ∧ w'.heap.size = w.heap.size := by
  have hb := h.lt
  obtain ⟨l, cl, h1, h2, h3, h4⟩ := h
  refine ⟨_, run_delete L hm h1 k, ⟨_, _, putO_same _ hb, ⟨h2.keys.sublist ((delL_sub k l).map _), h2.born.sublist ((delL_sub k l).map _), fun e he => h2.lt e ((delL_sub k l).subset he)⟩, fun j => ?_, ?_⟩, putO_fr _ _ _, putO_size _ _ _⟩
  · rw [look_delL k l j h2.keys, h3 j]; rfl
  · rw [delL_length, h3 k, h4]

theorem MapF.len {P : Program} {mt kt et ty : TypeId} {kv : K → Value} (hm : P.underlying mt = some (.map kt et)) {w : World} {b n : Nat} {f : K → Option Value} (h : MapF kv w b f n) :
    (Builtin.len_ #[mt] ty #[.map (some b)]).run P w = .ok (.int .i64 (n : Int)) w := by
  obtain ⟨l, cl, h1, h2, h3, h4⟩ := h
  unfold MapIs at h1
  simp only [Builtin.len_, List.getElem?_toArray, List.getElem?_cons_zero, Sem.run_bind, run_underlying hm, Result.andThen_ok]
  simp [getObj, Sem.run, h1, goInt, h4, Sem.run_pure]

theorem MapF.clear {P : Program} {mt kt et ty : TypeId} {kv : K → Value} (hm : P.underlying mt = some (.map kt et)) {w : World} {b n : Nat} {f : K → Option Value} (h : MapF kv w b f n) :
    ∃ w', (Builtin.clear_ #[mt] ty #[.map (some b)]).run P w = .ok (.tuple #[]) w' ∧ MapF kv w' b (fun _ => none) 0 ∧ Fr (fun i => i = b) w w' ∧ w'.heap.size = w.heap.size := by
  have hb := h.lt
  obtain ⟨l, cl, h1, h2, h3, h4⟩ := h
  unfold MapIs at h1
  refine ⟨putO w b (.map #[] cl), ?_, ⟨[], cl, putO_same _ hb, ⟨by simp, by simp, by simp⟩, fun _ => rfl, rfl⟩, putO_fr _ _ _, putO_size _ _ _⟩
  simp only [Builtin.clear_, List.getElem?_toArray, List.getElem?_cons_zero, Sem.run_bind, run_underlying hm, Result.andThen_ok]
  simp [getObj, Sem.run, h1, run_setObj h1, Sem.run_pure]

end maps
end Go.Proofs.Qxb6500450aGreat
