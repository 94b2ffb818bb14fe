/- Maps whose keys are strings, or a group and a word; an entry that is turned in place. -/
import Derived.Test.Qxb6500450aGreatShow
namespace Go.Proofs.Qxb6500450aGreat
open Go Go.RowKit
set_option maxRecDepth 100000
set_option linter.unusedSimpArgs false
set_option linter.unusedVariables false

def sk (x : ByteArray) : Value := .string x
def kk (k : Int × ByteArray) : Value := .agg #[.int .i64 k.1, .string k.2]
theorem ba_beq (a b : ByteArray) : (a == b) = decide (b = a) := by
  rw [beq_toListBytes]
  by_cases h : b = a
  · subst h; simp
  · rw [decide_eq_false h]
    refine beq_eq_false_iff_ne.2 fun c => h ?_
    have hh := beq_toListBytes a b
    rw [c] at hh
    simp at hh
    apply ByteArray.ext
    rw [ByteArray.toList_eq, ByteArray.toList_eq] at c
    exact (Array.ext' c).symm
theorem sk_law {P : Program} {kt : TypeId} (h : P.underlying kt = some .string) : KL P kt sk := by
  refine ⟨fun l k w => run_findKey_now h (fun a b => ?_) l k w, fun e a w => ?_, fun a => ?_⟩
  · simp only [Instr.sameNow, sk, ba_beq]
  · have : ∀ n, (Instr.checkKey e (n + 1) kt (sk a)).run P w = .ok () w := fun n => by
      simp only [Instr.checkKey, Sem.run_bind, run_underlying h, Result.andThen_ok, sk]
      rfl
    exact this 9999
  · simp [Instr.sameBits, sk]
    rw [ba_beq]; simp

theorem eqKey (g g' : Int) (x y : ByteArray) (W : World) : (Op.equal 106 (.agg #[.int .i64 g, .string x]) (.agg #[.int .i64 g', .string y])).run Tryz.prog W = .ok (g == g' && x.toList == y.toList) W := by
  show (Op.equalIn (9999 + 1) 106 (.agg #[.int .i64 g, .string x]) (.agg #[.int .i64 g', .string y])).run Tryz.prog W = _
  rw [run_equalIn_agg W 9999 106 _ _ (by kernel_rfl) (by kernel_rfl)]
  have hf : Tryz.prog.fieldsOf 106 = #[⟨"Group", 3, 0, false, "", "", 0⟩, ⟨"Word", 9, 1, false, "", "", 8⟩] := by kernel_rfl
  rw [hf]
  have hi : (Op.equalIn 9999 3 (.int .i64 g) (.int .i64 g')).run Tryz.prog W = .ok (g == g') W := run_equalIn_int (P := Tryz.prog) W 9998 3 .i64 .i64 g g' (by kernel_rfl)
  have hs : (Op.equalIn 9999 9 (.string x) (.string y)).run Tryz.prog W = .ok (x.toList == y.toList) W := run_equalIn_string (P := Tryz.prog) W 9998 9 x y (by kernel_rfl)
  have p1 : ∀ (h : Int) (z : ByteArray), (part 3 #[.int .i64 h, .string z] 0).run Tryz.prog W = .ok (.int .i64 h) W := fun _ _ => by kernel_rfl
  have p2 : ∀ (h : Int) (z : ByteArray), (part 9 #[.int .i64 h, .string z] 1).run Tryz.prog W = .ok (.string z) W := fun _ _ => by kernel_rfl
  by_cases h : g = g'
  · subst h
    simp [Op.eqFields, Sem.run_bind, p1, p2, hi, hs]
    by_cases hxy : x.toList = y.toList
    · rw [if_pos hxy, hxy]; simp
    · rw [if_neg hxy, beq_eq_false_iff_ne.2 hxy]
  · have : (g == g') = false := by simp [h]
    simp [Op.eqFields, Sem.run_bind, p1, p2, hi, this]
theorem uKey : Tryz.prog.underlying 106 = some (.struct #[⟨"Group", 3, 0, false, "", "", 0⟩, ⟨"Word", 9, 1, false, "", "", 8⟩]) := by kernel_rfl
theorem kKey : KL Tryz.prog 106 kk := by
  have fa : ∀ (l : List (Ent (Int × ByteArray))) (k : Int × ByteArray) (i : Nat) (w : World), (Instr.findAsking 106 (kk k) (l.map (·.me kk)) i).run Tryz.prog w = .ok (fnd l k i) w := by
    intro l
    induction l with
    | nil => intro k i w; rfl
    | cons e l ih =>
      intro k i w
      have he := eqKey k.1 e.key.1 k.2 e.key.2 w
      rw [← beq_toListBytes, ba_beq] at he
      simp only [List.map_cons, Instr.findAsking, Sem.run_bind, Ent.me]
      rw [show kk k = .agg #[.int .i64 k.1, .string k.2] from rfl, show kk e.key = .agg #[.int .i64 e.key.1, .string e.key.2] from rfl, he]
      simp only [Result.andThen_ok, fnd]
      by_cases h : e.key = k
      · rw [if_pos h]
        have : (k.1 == e.key.1 && decide (e.key.2 = k.2)) = true := by rw [h]; simp
        rw [this]
        rfl
      · rw [if_neg h]
        have : (k.1 == e.key.1 && decide (e.key.2 = k.2)) = false := by
          rw [Bool.and_eq_false_iff]
          by_cases h1 : k.1 = e.key.1
          · right
            simp
            intro h2
            exact h (Prod.ext h1.symm h2)
          · left; simp [h1]
        rw [this]
        simp only [Bool.false_eq_true, if_false]
        exact ih k (i + 1) w
  refine ⟨fun l k w => ?_, fun e a w => ?_, fun a => ?_⟩
  · simp only [Instr.findKey, Sem.run_bind, run_underlying uKey, Result.andThen_ok]
    cases l with
    | nil => rfl
    | cons e l =>
      simp only [List.map_cons, Instr.findNow, Instr.sameNow]
      exact fa (e :: l) k 0 w
  · kernel_rfl
  · simp [Instr.sameBits, kk]
    rw [ba_beq]; simp

theorem kStr : KL Tryz.prog 9 sk := sk_law (by kernel_rfl)
theorem uInv : Tryz.prog.underlying 77 = some (.map 9 117) := by kernel_rfl
theorem uBy : Tryz.prog.underlying 78 = some (.map 106 3) := by kernel_rfl
theorem uSet : Tryz.prog.underlying 85 = some (.map 3 4) := by kernel_rfl
theorem uSeen : Tryz.prog.underlying 133 = some (.map 9 4) := by kernel_rfl
theorem zBool (w : World) : (zeroValue 4).run Tryz.prog w = .ok (.bool false) w := by kernel_rfl
theorem zPost (w : World) : (zeroValue 117).run Tryz.prog w = .ok (.agg #[.map none, .int .i64 0]) w := by kernel_rfl

theorem modify_last {α : Type} (f : α → α) (a : α) : ∀ (l : List α) (n : Nat), n = l.length → (l ++ [a]).modify n f = l ++ [f a]
  | [], n, h => by subst h; rfl
  | b :: l, n, h => by
    subst h
    show ((b :: (l ++ [a])).modify (l.length + 1) f) = _
    rw [List.modify_succ_cons, modify_last f a l _ rfl]
    rfl
section maps
variable {K : Type} [DecidableEq K]
theorem fnd_mod (kv : K → Value) (k : K) (v : Value) : ∀ (l : List (Ent K)) (i j : Nat) (u : Value), fnd l k i = some (j, u) →
    (l.map (·.me kv)).modify (j - i) (fun e => { e with key := kv k }) = l.map (·.me kv) ∧ (l.map (·.me kv)).modify (j - i) (fun e => { e with val := v }) = (updL l k v).map (·.me kv) ∧ i ≤ j ∧ ∃ e, l[j - i]? = some e ∧ e.key = k ∧ e.val = u
  | [], i, j, u, h => by simp [fnd] at h
  | e :: l, i, j, u, h => by
    simp only [fnd] at h
    split at h
    · rename_i hk
      simp only [Option.some.injEq, Prod.mk.injEq] at h
      obtain ⟨rfl, rfl⟩ := h
      subst hk
      simp [updL, List.modify, Ent.me]
    · rename_i hk
      obtain ⟨h1, h2, h3, h4⟩ := fnd_mod kv k v l (i + 1) j u h
      have e1 : j - i = (j - (i + 1)) + 1 := by omega
      rw [e1]
      refine ⟨?_, ?_, by omega, by simpa using h4⟩
      · simp only [List.map_cons, List.modify_succ_cons, h1]
      · simp only [updL, hk, if_false, List.map_cons, List.modify_succ_cons, h2]
omit [DecidableEq K] in
theorem idx_born (kv : K → Value) : ∀ (l : List (Ent K)) (j : Nat) (e : Ent K), l[j]? = some e → (l.map (·.born)).Nodup → (l.map (·.me kv)).findIdx? (fun x => (x.born : Int) == (e.born : Int)) = some j
  | [], j, e, h, _ => by simp at h
  | a :: l, j, e, h, hn => by
    rw [List.map_cons, List.findIdx?_cons]
    obtain ⟨hn1, hn2⟩ := List.nodup_cons.1 hn
    cases j with
    | zero =>
      simp at h
      subst h
      simp [Ent.me]
    | succ j =>
      simp at h
      have hne : a.born ≠ e.born := fun c => hn1 (by
        show a.born ∈ _
        rw [c]
        exact List.mem_map_of_mem (f := fun x : Ent K => x.born) (List.mem_of_getElem? h))
      have hb : (((a.me kv).born : Int) == (e.born : Int)) = false := by
        refine beq_eq_false_iff_ne.2 fun c => hne ?_
        have : (a.me kv).born = a.born := rfl
        omega
      rw [hb, idx_born kv l j e h hn2]
      rfl

/-- An entry is taken, then its value is stored. -/
theorem run_entry {P : Program} {mt kt et : TypeId} {kv : K → Value} (L : KL P kt kv) (hm : P.underlying mt = some (.map kt et)) {z : Value} {w : World} (hz : (zeroValue et).run P w = .ok z w)
    {b : Nat} {l : List (Ent K)} {clock : Nat} (h : MapIs kv w b l clock) (hg : Good l clock) (k : K) :
    ∃ (s : Int) (w1 : World), (Instr.mapEntry mt (.map (some b)) (kv k)).run P w = .ok (.tuple #[(look l k).getD z, .int .i64 s]) w1 ∧ w1 = putO w b (.map ((putL l k ((look l k).getD z) clock).map (·.me kv)).toArray (putC l k clock)) ∧ ∀ v, (Instr.entryStore mt (.map (some b)) (.int .i64 s) v).run P w1 = .ok () (putO w b (.map ((putL l k v clock).map (·.me kv)).toArray (putC l k clock))) := by
  have hb : b < w.heap.size := block_lt h
  unfold MapIs at h
  have hf := L.find l k w
  have hl := fnd_look k l 0
  have put2 : ∀ o o', putO (putO w b o) b o' = putO w b o' := fun o o' => by simp [putO]
  cases hc : fnd l k 0 with
  | none =>
    rw [hc] at hl hf
    simp only [Option.map_none] at hl
    refine ⟨clock, putO w b (.map ((l ++ [(⟨k, z, clock⟩ : Ent K)]).map (·.me kv)).toArray (clock + 1)), ?_, by simp [putL, putC, ← hl], fun v => ?_⟩
    · simp only [Instr.mapEntry, Sem.run_bind, run_underlying hm, Result.andThen_ok]
      simp only [getObj, Sem.run, h, Sem.run_bind, Result.andThen_ok, L.chk, hf, hz]
      rw [run_setObj h]
      simp [← hl, Sem.run_pure, Ent.me, goInt]
    · have h1 : (putO w b (.map ((l ++ [(⟨k, z, clock⟩ : Ent K)]).map (·.me kv)).toArray (clock + 1))).heap[b]? = some (.map ((l ++ [(⟨k, z, clock⟩ : Ent K)]).map (·.me kv)).toArray (clock + 1)) := putO_same _ hb
      have hnd : ((l ++ [(⟨k, z, clock⟩ : Ent K)]).map (·.born)).Nodup := by
        rw [List.map_append, List.nodup_append]
        refine ⟨hg.born, by simp, ?_⟩
        intro a ha b' hb' e
        simp at hb'
        obtain ⟨x, hx, rfl⟩ := List.mem_map.1 ha
        have := hg.lt x hx
        omega
      have hi := idx_born kv (l ++ [⟨k, z, clock⟩]) l.length ⟨k, z, clock⟩ (by simp) hnd
      simp only [Instr.entryStore, Sem.run_bind]
      simp only [getObj, Sem.run, h1, Sem.run_bind, Result.andThen_ok, asInt, asIntOf, Sem.run_pure]
      have hia : ((l ++ [(⟨k, z, clock⟩ : Ent K)]).map (·.me kv)).toArray.findIdx? (fun x => (x.born : Int) == (clock : Int)) = some l.length := by
        rw [List.findIdx?_toArray]; exact hi
      rw [hia]
      simp only
      rw [run_setObj h1, put2]
      have e1 : putL l k v clock = l ++ [⟨k, v, clock⟩] := by unfold putL; rw [← hl]; simp
      have e2 : putC l k clock = clock + 1 := by unfold putC; rw [← hl]; simp
      rw [e1, e2]
      have ha : ((l ++ [(⟨k, z, clock⟩ : Ent K)]).map (·.me kv)).toArray.modify l.length (fun e => { e with val := v }) = ((l ++ [(⟨k, v, clock⟩ : Ent K)]).map (·.me kv)).toArray := by
        apply Array.ext'
        rw [Array.toList_modify]
        rw [List.map_append]
        show ((l.map (·.me kv)) ++ [Ent.me kv ⟨k, z, clock⟩]).modify l.length _ = _
        rw [modify_last _ _ _ _ (by simp), List.map_append]
        rfl
      rw [ha]
  | some p =>
    obtain ⟨j, u⟩ := p
    rw [hc] at hl hf
    simp only [Option.map_some] at hl
    obtain ⟨_, _, _, e, he, hek, heu⟩ := fnd_mod kv k u l 0 j u hc
    simp only [Nat.sub_zero] at he
    have hge : (l.map (·.me kv)).toArray[j]? = some (e.me kv) := by simp [he]
    have hsame : updL l k u = l := by
      have := (fnd_mod kv k u l 0 j u hc).2.1
      clear this
      have : ∀ (l : List (Ent K)), look l k = some u → updL l k u = l := by
        intro l
        induction l with
        | nil => intro _; rfl
        | cons a l ih =>
          intro h
          simp only [look] at h
          simp only [updL]
          split at h
          · rename_i hk
            rw [if_pos hk]
            cases h
            cases a
            simp at hk
            subst hk
            rfl
          · rename_i hk
            rw [if_neg hk, ih h]
      exact this l hl.symm
    refine ⟨e.born, putO w b (.map (l.map (·.me kv)).toArray clock), ?_, by simp [putL, putC, ← hl, hsame], fun v => ?_⟩
    · simp only [Instr.mapEntry, Sem.run_bind, run_underlying hm, Result.andThen_ok]
      simp only [getObj, Sem.run, h, Sem.run_bind, Result.andThen_ok, L.chk, hf, hz, hge]
      have hkey : (e.me kv).key = kv k := by simp [Ent.me, hek]
      simp only [Option.map_some, Option.getD_some, hkey, Instr.keyThatStays, L.bits, if_true, Sem.run_bind, Sem.run_pure, Result.andThen_ok]
      rw [run_setObj h]
      have ha : (l.map (·.me kv)).toArray.modify j (fun e => { e with key := kv k }) = (l.map (·.me kv)).toArray := by
        apply Array.ext'
        rw [Array.toList_modify]
        have := (fnd_mod kv k u l 0 j u hc).1
        simpa using this
      rw [ha]
      simp [← hl, Sem.run_pure, Ent.me, goInt]
    · have h1 : (putO w b (.map (l.map (·.me kv)).toArray clock)).heap[b]? = some (.map (l.map (·.me kv)).toArray clock) := putO_same _ hb
      have hi := idx_born kv l j e he hg.born
      simp only [Instr.entryStore, Sem.run_bind]
      simp only [getObj, Sem.run, h1, Sem.run_bind, Result.andThen_ok, asInt, asIntOf, Sem.run_pure]
      have hia : (l.map (·.me kv)).toArray.findIdx? (fun x => (x.born : Int) == (e.born : Int)) = some j := by
        rw [List.findIdx?_toArray]; exact hi
      rw [hia]
      simp only
      rw [run_setObj h1, put2]
      have e1 : putL l k v clock = updL l k v := by unfold putL; rw [← hl]; simp
      have e2 : putC l k clock = clock := by unfold putC; rw [← hl]; simp
      rw [e1, e2]
      have ha : (l.map (·.me kv)).toArray.modify j (fun e => { e with val := v }) = ((updL l k v).map (·.me kv)).toArray := by
        apply Array.ext'
        rw [Array.toList_modify]
        have := (fnd_mod kv k v l 0 j u hc).2.1
        simpa using this
      rw [ha]

theorem MapF.entry {P : Program} {mt kt et : TypeId} {kv : K → Value} (L : KL P kt kv) (hm : P.underlying mt = some (.map kt et)) {z : Value} {w : World} (hz : (zeroValue et).run P w = .ok z w)
    {b n : Nat} {f : K → Option Value} (h : MapF kv w b f n) (k : K) :
    ∃ (s : Int) (w1 : World), (Instr.mapEntry mt (.map (some b)) (kv k)).run P w = .ok (.tuple #[(f k).getD z, .int .i64 s]) w1 ∧ MapF kv w1 b (updF f k (some ((f k).getD z))) (if (f k).isSome then n else n + 1) ∧ Fr (fun i => i = b) w w1 ∧ w1.heap.size = w.heap.size ∧ ∀ v, ∃ w2, (Instr.entryStore mt (.map (some b)) (.int .i64 s) v).run P w1 = .ok () w2 ∧ MapF kv w2 b (updF f k (some v)) (if (f k).isSome then n else n + 1) ∧ Fr (fun i => i = b) w w2 ∧ w2.heap.size = w.heap.size := by
  obtain ⟨l, clock, h1, h2, h3, h4⟩ := h
  obtain ⟨s, w1, r1, rw1, r2⟩ := run_entry L hm hz h1 h2 k
  rw [h3] at r1 rw1
  have key : ∀ v, MapF kv (putO w b (.map ((putL l k v clock).map (·.me kv)).toArray (putC l k clock))) b (updF f k (some v)) (if (f k).isSome then n else n + 1) := by
    intro v
    obtain ⟨w', hr, m1, _, _⟩ := (show MapF kv w b f n from ⟨l, clock, h1, h2, h3, h4⟩).update L hm k v
    rw [run_mapUpdate L hm h1 k v] at hr
    cases hr
    exact m1
  refine ⟨s, w1, r1, by rw [rw1]; exact key _, by rw [rw1]; exact putO_fr _ _ _, by rw [rw1]; exact putO_size _ _ _, fun v => ⟨_, r2 v, key v, putO_fr _ _ _, putO_size _ _ _⟩⟩
end maps

end Go.Proofs.Qxb6500450aGreat
