/- Slices of strings that a call owns; the words of a text; split; Strs. -/
import Derived.Test.Qxb6500450aGreatIKey
namespace Go.Proofs.Qxb6500450aGreat
open Go Go.RowKit
set_option maxRecDepth 100000
set_option maxHeartbeats 1600000
set_option linter.unusedSimpArgs false
set_option linter.unusedVariables false

def OwnS (w : World) (base : Nat) (v : Value) (l : List ByteArray) : Prop := w.ownsRow base 9 1 v l.length (l.map sk)
theorem OwnS.nil (w : World) (base : Nat) : OwnS w base (.slice none 0 0) [] := World.ownsRow_nil w base _ _
theorem OwnS.fr {w w' : World} {base : Nat} {v : Value} {l : List ByteArray} (h : OwnS w base v l) {S : Nat → Prop} (hf : Fr S w w') (hn : ∀ k, v.ownBlock = some k → ¬ S k) : OwnS w' base v l := ownsRow_fr h hf hn
theorem OwnS.empty {w : World} {base : Nat} {v : Value} {l : List ByteArray} (h : OwnS w base v l) : (v = .slice none 0 0 ∧ l = []) ∨ ∃ g cap, v = .slice (some ⟨g, 0, none⟩) l.length cap ∧ base ≤ g ∧ g < w.heap.size := by
  rcases h.2 with ⟨h1, h2⟩ | ⟨g, cap, cur, h1, h2, h3, _⟩
  · exact .inl ⟨h1, List.eq_nil_of_length_eq_zero h2⟩
  · exact .inr ⟨g, cap, h1, h2, (Array.getElem?_eq_some_iff.1 h3).1⟩
theorem OwnS.form {w : World} {base : Nat} {v : Value} {l : List ByteArray} (h : OwnS w base v l) : ∃ a cap, v = .slice a l.length cap := by
  rcases h.empty with ⟨rfl, rfl⟩ | ⟨g, cap, rfl, _⟩
  · exact ⟨none, 0, rfl⟩
  · exact ⟨_, cap, rfl⟩
theorem OwnS.lt {w : World} {base : Nat} {v : Value} {l : List ByteArray} (h : OwnS w base v l) {k : Nat} (hk : v.ownBlock = some k) : base ≤ k ∧ k < w.heap.size := by
  rcases h.empty with ⟨rfl, rfl⟩ | ⟨g, cap, rfl, h1, h2⟩
  · simp [Value.ownBlock] at hk
  · simp [Value.ownBlock] at hk; subst hk; exact ⟨h1, h2⟩
theorem OwnS.cell {w : World} {base g cap n : Nat} {l : List ByteArray} (h : OwnS w base (.slice (some ⟨g, 0, none⟩) n cap) l) (hn : n = l.length) {j : Nat} (hj : j < l.length) : At w g j (.string (l.getD j ⟨#[]⟩)) := by
  subst hn
  refine ⟨?_, World.ownsRow.frozenAt h j⟩
  rw [World.ownsRow.cellAt h j (by omega)]
  simp [List.getD, hj, sk]
theorem OwnS.set {w : World} {base g cap n : Nat} {l : List ByteArray} (h : OwnS w base (.slice (some ⟨g, 0, none⟩) n cap) l) (hn : n = l.length) (j : Nat) (x : ByteArray) : OwnS (w.setCell ⟨g, j, none⟩ (.string x)) base (.slice (some ⟨g, 0, none⟩) n cap) (l.set j x) := by
  subst hn
  have := (World.ownsRow.stored h j (.string x)).1
  unfold OwnS
  rw [List.length_set, List.map_set]
  exact this
theorem infoStr : (Tryz.prog.info? 9).map (fun i => (i.zero, i.size, i.bytes)) = some (some (.string ⟨#[]⟩), 1, 16) := by kernel_rfl
theorem uSliceStr : Tryz.prog.underlying 67 = some (.slice 9) := by kernel_rfl
theorem wp_appS {w : World} {ops : Array Oper} {rest : List Oper} {o : Oper} {a : Act} {Q : Exit → Act → World → Prop} (hgd : o.guard = none) {s x : Operand}
    (ho : o.op = .call { callee := .builtin .append, args := #[s, x], argTypes := #[67, 67] }) {base : Nat} {v : Value} {l : List ByteArray} (hs : a.eval s = v) (hown : OwnS w base v l)
    {B c : Nat} (hx : a.eval x = .slice (some ⟨B, 0, none⟩) 1 c) {y : ByteArray} (hc : w.cell? ⟨B, 0, none⟩ = some (.string y)) (hlen : l.length ≤ 1000000) (hbase : base ≤ w.heap.size)
    (h : ∀ g cap w', OwnS w' base (.slice (some ⟨g, 0, none⟩) (l.length + 1) cap) (l ++ [y]) → Fr (fun i => v.ownBlock = some i) w w' → (v.ownBlock = some g ∨ g = w.heap.size) → g < w'.heap.size → wpList Tryz.prog ops Q rest (a.put o.dst (.slice (some ⟨g, 0, none⟩) (l.length + 1) cap)) w') :
    wpList Tryz.prog ops Q (o :: rest) a w := by
  obtain ⟨i0, hi, hz0, hz1, hz2⟩ := info_parts infoStr
  refine wpList_append_lies w hgd s x 67 ho base 9 i0 (.string ⟨#[]⟩) 1 16 uSliceStr hi hz0 hz1 hz2 rfl (by decide) v l.length (l.map sk) hs hown ⟨B, 0, none⟩ 1 c [.string y] hx rfl ?_ ?_ (by decide) (by unfold maxLen; omega) (by omega) hbase w.heap.size rfl ?_
  · intro j u hj
    cases j with
    | zero =>
      simp at hj
      subst hj
      rw [add_addr]
      exact hc
    | succ j => simp at hj
  · intro u hu
    simp at hu
    subst hu
    rfl
  · intro g cap w' h1 h2 h3 h4
    refine h g cap w' ?_ (Fr.of_grown h2) h3 h4
    unfold OwnS
    rw [List.length_append, List.map_append]
    exact h1

theorem OwnS.base {w : World} {base base' : Nat} {v : Value} {l : List ByteArray} (h : OwnS w base v l) (hb : base' ≤ base) : OwnS w base' v l := by
  refine ⟨h.1, ?_⟩
  rcases h.2 with h2 | ⟨g, cap, cur, h1, h2, rest⟩
  · exact .inl h2
  · exact .inr ⟨g, cap, cur, h1, Nat.le_trans hb h2, rest⟩

/-! ### The words of a text -/
instance : LawfulBEq ByteArray where
  rfl := fun {a} => by rw [ba_beq]; simp
  eq_of_beq := fun {a b} h => by rw [ba_beq] at h; exact (of_decide_eq_true h).symm
def nbk (t : ByteArray) (i : Nat) : Bool := if h : i < t.size then decide (t[i].toNat ≠ 32) else false
def rn (t : ByteArray) : Nat → Nat → Nat → List ByteArray
  | 0, _, _ => []
  | n + 1, lo, i => if nbk t i then rn t n lo (i + 1) else (if lo < i then [t.extract lo i] else []) ++ rn t n (i + 1) (i + 1)
/-- The runs of a text between blanks, in order. -/
def runs (t : ByteArray) : List ByteArray := rn t (t.size + 1) 0 0
def addN (l : List ByteArray) (x : ByteArray) : List ByteArray := if x ∈ l then l else l ++ [x]
def splitL (t : ByteArray) : List ByteArray := (runs t).foldl addN []
theorem addN_mem (l : List ByteArray) (x y : ByteArray) : y ∈ addN l x ↔ y ∈ l ∨ y = x := by
  unfold addN
  split
  · rename_i h
    exact ⟨.inl, fun h' => h'.elim id (fun e => e ▸ h)⟩
  · simp
theorem addN_nodup {l : List ByteArray} (h : l.Nodup) (x : ByteArray) : (addN l x).Nodup := by
  unfold addN
  split
  · exact h
  · rename_i hx
    rw [List.nodup_append]
    refine ⟨h, by simp, ?_⟩
    intro a ha b hb e
    simp at hb
    subst hb
    exact hx (e ▸ ha)
theorem foldN_mem (y : ByteArray) : ∀ (r l : List ByteArray), y ∈ r.foldl addN l ↔ y ∈ l ∨ y ∈ r
  | [], l => by simp
  | x :: r, l => by
    rw [List.foldl_cons, foldN_mem y r, addN_mem]
    simp only [List.mem_cons]
    constructor
    · rintro ((h | h) | h)
      · exact .inl h
      · exact .inr (.inl h)
      · exact .inr (.inr h)
    · rintro (h | h | h)
      · exact .inl (.inl h)
      · exact .inl (.inr h)
      · exact .inr h
theorem foldN_nodup : ∀ (r l : List ByteArray), l.Nodup → (r.foldl addN l).Nodup
  | [], l, h => h
  | x :: r, l, h => foldN_nodup r _ (addN_nodup h x)
theorem splitL_mem (t y : ByteArray) : y ∈ splitL t ↔ y ∈ runs t := by unfold splitL; rw [foldN_mem]; simp
theorem splitL_nodup (t : ByteArray) : (splitL t).Nodup := foldN_nodup _ _ List.nodup_nil
theorem addN_len (l : List ByteArray) (x : ByteArray) : (addN l x).length ≤ l.length + 1 := by unfold addN; split <;> simp
theorem foldN_len : ∀ (r l : List ByteArray), (r.foldl addN l).length ≤ l.length + r.length
  | [], l => by simp
  | x :: r, l => by
    have := foldN_len r (addN l x)
    have := addN_len l x
    simp at *; omega
theorem rn_len (t : ByteArray) : ∀ n lo i, (rn t n lo i).length ≤ n
  | 0, _, _ => by simp [rn]
  | n + 1, lo, i => by
    unfold rn
    split
    · have := rn_len t n lo (i + 1); omega
    · have := rn_len t n (i + 1) (i + 1)
      rw [List.length_append]
      split <;> simp <;> omega
theorem runs_len (t : ByteArray) : (runs t).length ≤ t.size + 1 := rn_len t _ _ _
theorem splitL_len (t : ByteArray) : (splitL t).length ≤ t.size + 1 := by
  have := foldN_len (runs t) []
  have := runs_len t
  unfold splitL
  simp at *; omega
/-- A run is not empty and no longer than its text. -/
theorem rn_size (t : ByteArray) : ∀ n lo i, i + n ≤ t.size + 1 → ∀ x ∈ rn t n lo i, 0 < x.size ∧ x.size ≤ t.size
  | 0, _, _, _, x, h => by simp [rn] at h
  | n + 1, lo, i, hn0, x, h => by
    unfold rn at h
    by_cases hn : nbk t i = true
    · rw [if_pos hn] at h; exact rn_size t n lo (i + 1) (by omega) x h
    · rw [if_neg hn, List.mem_append] at h
      rcases h with h | h
      · by_cases hl : lo < i
        · rw [if_pos hl] at h
          simp at h
          subst h
          rw [ByteArray.size_extract]
          omega
        · rw [if_neg hl] at h; simp at h
      · exact rn_size t n _ _ (by omega) x h
theorem runs_size {t x : ByteArray} (h : x ∈ runs t) : 0 < x.size ∧ x.size ≤ t.size := rn_size t _ _ _ (by omega) x h

def seenM (l : List ByteArray) (x : ByteArray) : Option Value := if x ∈ l then some (.bool true) else none
theorem seenM_nil : (fun _ => none) = seenM [] := by funext x; simp [seenM]
theorem seenM_add (l : List ByteArray) (x : ByteArray) : updF (seenM l) x (some (.bool true)) = seenM (l ++ [x]) := by
  funext y
  unfold updF seenM
  by_cases h : y = x
  · subst h; simp
  · simp [h]
theorem seenM_get (l : List ByteArray) (x : ByteArray) : (seenM l x).getD (.bool false) = .bool (decide (x ∈ l)) := by
  unfold seenM
  by_cases h : x ∈ l <;> simp [h]

theorem split_any {t : ByteArray} (ht : t.size ≤ 1000) (w : World) :
    Calls Tryz.prog 103 #[.string t] w fun e w' => ∃ v, e = .returned v ∧ OwnS w' w.heap.size v (splitL t) ∧ Fr (fun _ => False) w w' := by
  have m2 := @run_makeMap Tryz.prog
  go_enter Tryz.func103, Tryz.ntmps103
  go_upto_region 3 with fail
  have A0 := hid (MapF.new sk w)
  have F0 : Hid (Fr (fun _ => False) w (w.alloc (.map #[] 0))) := (Fr.refl _ _).alloc _
  have Z0 : Hid ((w.alloc (.map #[] 0)).heap.size = w.heap.size + 1) := by simp [Hid]
  generalize w.alloc (.map #[] 0) = w0 at *
  obtain ⟨bs, hbs⟩ : ∃ bs, bs = w.heap.size := ⟨_, rfl⟩
  rw [← hbs] at A0 Z0 ⊢
  have HBS := hid hbs
  clear hbs m2
  go_wp2_with fail
  go_loopw [3, 5, 6] (fun v a b wr => ∃ (lo i n : Nat) (l : List ByteArray), lo ≤ i ∧ i ≤ t.size + 1 ∧ a = .int .i64 lo ∧ b = .int .i64 i ∧ OwnS wr (bs + 1) v l ∧ MapF sk wr bs (seenM l) n ∧ Fr (fun _ => False) w wr ∧ bs + 1 ≤ wr.heap.size ∧ (rn t (t.size + 1 - i) lo i).foldl addN l = splitL t ∧ l.length ≤ i) (fun _ _ b _ => t.size + 1 - (intOf b).toNat)
  case atStart => exact ⟨0, 0, 0, [], by omega, by omega, rfl, rfl, OwnS.nil _ _, by rw [← seenM_nil]; exact A0.out, F0.out, by have := Z0.out; omega, rfl, by simp⟩
  case round =>
    clear A0 F0 Z0
    obtain ⟨lo, i, n, l, hli, his, rfl, rfl, ow, mp, fr, hsz, hfo, hll⟩ := hrel
    have OW := hid ow
    have MP := hid mp
    have FR := hid fr
    have HFO := hid hfo
    have hi0 : (0 : Int) ≤ (i : Int) := by omega
    have hlo0 : (0 : Int) ≤ (lo : Int) := by omega
    have hloi : (lo : Int) ≤ (i : Int) := by omega
    clear ow mp fr hfo
    generalize u3 = v at *
    by_cases hle : i ≤ t.size
    · have hleI : (i : Int) ≤ (t.size : Int) := by omega
      have hit : (i : Int) ≤ 1000 := by omega
      have e1 : t.size + 1 - i = (t.size - i) + 1 := by omega
      have e2 : t.size + 1 - (i + 1) = t.size - i := by omega
      rw [e1] at HFO
      by_cases hnb : nbk t i = true
      · have HN : Hid ((rn t (t.size + 1 - (i + 1)) lo (i + 1)).foldl addN l = splitL t) := by
          have := HFO.out
          unfold rn at this
          rw [if_pos hnb] at this
          rw [e2]
          exact this
        have hlt : i < t.size := by
          unfold nbk at hnb
          split at hnb
          · assumption
          · cases hnb
        have hltI : (i : Int) < (t.size : Int) := by omega
        have hb : ((t[i].toNat : Int) != 32) = true := by
          unfold nbk at hnb
          rw [dif_pos hlt] at hnb
          simp at hnb ⊢
          omega
        clear hnb HFO e1 e2
        go_wp2_with fail
        exact ⟨⟨lo, i + 1, n, l, by omega, by omega, rfl, by go_num, OW.out, MP.out, FR.out, hsz, HN.out, by omega⟩, by simp [intOf]; omega⟩
      · have HN : Hid (((if lo < i then [t.extract lo i] else []) ++ rn t (t.size + 1 - (i + 1)) (i + 1) (i + 1)).foldl addN l = splitL t) := by
          have := HFO.out
          unfold rn at this
          rw [if_neg hnb] at this
          rw [e2]
          exact this
        have hcase : (i < t.size ∧ ∃ h : i < t.size, t[i].toNat = 32) ∨ ¬ i < t.size := by
          by_cases h : i < t.size
          · left
            refine ⟨h, h, ?_⟩
            unfold nbk at hnb
            rw [dif_pos h] at hnb
            simpa using hnb
          · exact .inr h
        clear hnb HFO e1 e2
        have hsl : ∀ W, (Instr.slice 9 (.string t) (some (.int .i64 (lo : Int))) (some (.int .i64 (i : Int))) none).run Tryz.prog W = .ok (.string (t.extract lo i)) W := fun W => by
          have := run_slice_string (P := Tryz.prog) W 9 t .i64 .i64 (lo : Int) (i : Int) (by kernel_rfl) hlo0 hloi hleI
          simpa using this
        have HPC : Hid ((lo < i → ¬ (t.extract lo i).toList = []) ∧ (¬ lo < i → (t.extract lo i).toList = [])) := by
          have hz : (t.extract lo i).size = i - lo := by rw [ByteArray.size_extract]; omega
          have hl : (t.extract lo i).toList.length = i - lo := by rw [ByteArray.toList_eq, Array.length_toList]; exact hz
          refine ⟨fun h e => ?_, fun h => List.eq_nil_of_length_eq_zero (by omega)⟩
          rw [e] at hl
          simp at hl
          omega
        generalize t.extract lo i = pc at *
        rcases hcase with ⟨hlt, _, hby⟩ | hlt
        · have hltI : (i : Int) < (t.size : Int) := by omega
          have hb : ((t[i].toNat : Int) != 32) = false := by simp; omega
          clear hby
          by_cases hll2 : lo < i
          · have hpe : ¬ pc.toList = [] := HPC.out.1 hll2
            have hpe2 : pc.toList.isEmpty = false := by cases h : pc.toList with | nil => exact absurd h hpe | cons _ _ => rfl
            have HN2 : Hid ((rn t (t.size + 1 - (i + 1)) (i + 1) (i + 1)).foldl addN (addN l pc) = splitL t) := by
              have := HN.out
              rw [if_pos hll2] at this
              exact this
            by_cases hin : pc ∈ l
            · have hlk : ∀ W, W = wr → (Instr.lookup 133 (.map (some bs)) (.string pc) false).run Tryz.prog W = .ok (.bool true) W := fun W e => by
                have := MP.out.lookup kStr uSeen (zBool wr) pc false
                rw [seenM_get] at this
                subst e
                simpa [hin, sk] using this
              have hlk1 := hlk wr rfl
              have HA : Hid (addN l pc = l) := by unfold Hid addN; rw [if_pos hin]
              rw [HA.out] at HN2
              clear hin hlk
              go_wp2_with fail
              exact ⟨⟨i + 1, i + 1, n, l, by omega, by omega, by go_num, by go_num, OW.out, MP.out, FR.out, hsz, HN2.out, by omega⟩, by simp [intOf]; omega⟩
            · have hlk1 : (Instr.lookup 133 (.map (some bs)) (.string pc) false).run Tryz.prog wr = .ok (.bool false) wr := by
                have := MP.out.lookup kStr uSeen (zBool wr) pc false
                rw [seenM_get] at this
                simpa [hin, sk] using this
              have HA : Hid (addN l pc = l ++ [pc]) := by unfold Hid addN; rw [if_neg hin]
              rw [HA.out] at HN2
              clear hin
              go_wp2_with (first
                | (at_mapUpdate; refine wp_upd rfl rfl kStr uSeen MP.out rfl (k := pc) rfl (u := .bool true) rfl ?_; intro w1 hm1 hf1 hs1; rw [seenM_add] at hm1; have OW1 := hid (OW.out.fr hf1 (fun k hk e => by have e' : k = bs := e; have := (OW.out.lt hk).1; omega)); have M1 := hid hm1; have F1 : Hid (Fr (fun _ => False) w w1) := FR.out.then hf1 (fun k hk e => by have e' : k = bs := e; have := HBS.out; omega); have hs1' : bs + 1 ≤ w1.heap.size := by omega)
                | (at_builtin; refine wp_appS rfl rfl (v := v) rfl (OW1.out.fr ((Fr.refl (fun _ => False) _).alloc _) (fun _ _ h => h)) rfl (y := pc) (by rw [← hs1]; exact (At.new w1 #[.string pc] _ rfl).c) (by omega) (by simp; omega) ?_; intro gg cp w4 ow4 f4 hg4 hl4; go_frame)
                | go_in)
              have FA := (Fr.refl (fun _ => False) w1).alloc (.cells #[.string pc] 9)
              have M4 := (M1.out.fr FA (fun h => h)).fr f4 (fun e => by have := (OW1.out.lt e).1; omega)
              have F4 : Fr (fun _ => False) w w4 := (F1.out.trans FA).then f4 (fun k hk e => by have := (OW1.out.lt e).1; have := HBS.out; omega)
              exact ⟨⟨i + 1, i + 1, _, l ++ [pc], by omega, by omega, by go_num, by go_num, by simpa using ow4, M4, F4, by have := FA.size; have := f4.size; omega, HN2.out, by simp; omega⟩, by simp [intOf]; omega⟩
          · have hpe : pc.toList = [] := HPC.out.2 hll2
            have HN2 : Hid ((rn t (t.size + 1 - (i + 1)) (i + 1) (i + 1)).foldl addN l = splitL t) := by
              have := HN.out
              rw [if_neg hll2] at this
              exact this
            go_wp2_with fail
            exact ⟨⟨i + 1, i + 1, n, l, by omega, by omega, by go_num, by go_num, OW.out, MP.out, FR.out, hsz, HN2.out, by omega⟩, by simp [intOf]; omega⟩
        · have hltI : ¬ (i : Int) < (t.size : Int) := by omega
          by_cases hll2 : lo < i
          · have hpe : ¬ pc.toList = [] := HPC.out.1 hll2
            have hpe2 : pc.toList.isEmpty = false := by cases h : pc.toList with | nil => exact absurd h hpe | cons _ _ => rfl
            have HN2 : Hid ((rn t (t.size + 1 - (i + 1)) (i + 1) (i + 1)).foldl addN (addN l pc) = splitL t) := by
              have := HN.out
              rw [if_pos hll2] at this
              exact this
            by_cases hin : pc ∈ l
            · have hlk : ∀ W, W = wr → (Instr.lookup 133 (.map (some bs)) (.string pc) false).run Tryz.prog W = .ok (.bool true) W := fun W e => by
                have := MP.out.lookup kStr uSeen (zBool wr) pc false
                rw [seenM_get] at this
                subst e
                simpa [hin, sk] using this
              have hlk1 := hlk wr rfl
              have HA : Hid (addN l pc = l) := by unfold Hid addN; rw [if_pos hin]
              rw [HA.out] at HN2
              clear hin hlk
              go_wp2_with fail
              exact ⟨⟨i + 1, i + 1, n, l, by omega, by omega, by go_num, by go_num, OW.out, MP.out, FR.out, hsz, HN2.out, by omega⟩, by simp [intOf]; omega⟩
            · have hlk1 : (Instr.lookup 133 (.map (some bs)) (.string pc) false).run Tryz.prog wr = .ok (.bool false) wr := by
                have := MP.out.lookup kStr uSeen (zBool wr) pc false
                rw [seenM_get] at this
                simpa [hin, sk] using this
              have HA : Hid (addN l pc = l ++ [pc]) := by unfold Hid addN; rw [if_neg hin]
              rw [HA.out] at HN2
              clear hin
              go_wp2_with (first
                | (at_mapUpdate; refine wp_upd rfl rfl kStr uSeen MP.out rfl (k := pc) rfl (u := .bool true) rfl ?_; intro w1 hm1 hf1 hs1; rw [seenM_add] at hm1; have OW1 := hid (OW.out.fr hf1 (fun k hk e => by have e' : k = bs := e; have := (OW.out.lt hk).1; omega)); have M1 := hid hm1; have F1 : Hid (Fr (fun _ => False) w w1) := FR.out.then hf1 (fun k hk e => by have e' : k = bs := e; have := HBS.out; omega); have hs1' : bs + 1 ≤ w1.heap.size := by omega)
                | (at_builtin; refine wp_appS rfl rfl (v := v) rfl (OW1.out.fr ((Fr.refl (fun _ => False) _).alloc _) (fun _ _ h => h)) rfl (y := pc) (by rw [← hs1]; exact (At.new w1 #[.string pc] _ rfl).c) (by omega) (by simp; omega) ?_; intro gg cp w4 ow4 f4 hg4 hl4; go_frame)
                | go_in)
              have FA := (Fr.refl (fun _ => False) w1).alloc (.cells #[.string pc] 9)
              have M4 := (M1.out.fr FA (fun h => h)).fr f4 (fun e => by have := (OW1.out.lt e).1; omega)
              have F4 : Fr (fun _ => False) w w4 := (F1.out.trans FA).then f4 (fun k hk e => by have := (OW1.out.lt e).1; have := HBS.out; omega)
              exact ⟨⟨i + 1, i + 1, _, l ++ [pc], by omega, by omega, by go_num, by go_num, by simpa using ow4, M4, F4, by have := FA.size; have := f4.size; omega, HN2.out, by simp; omega⟩, by simp [intOf]; omega⟩
          · have hpe : pc.toList = [] := HPC.out.2 hll2
            have HN2 : Hid ((rn t (t.size + 1 - (i + 1)) (i + 1) (i + 1)).foldl addN l = splitL t) := by
              have := HN.out
              rw [if_neg hll2] at this
              exact this
            go_wp2_with fail
            exact ⟨⟨i + 1, i + 1, n, l, by omega, by omega, by go_num, by go_num, OW.out, MP.out, FR.out, hsz, HN2.out, by omega⟩, by simp [intOf]; omega⟩
    · have hgt : ¬ (i : Int) ≤ (t.size : Int) := by omega
      have HE : Hid (l = splitL t) := by
        have := HFO.out
        have e : t.size + 1 - i = 0 := by omega
        rw [e] at this
        exact this
      go_wp2_with fail
      go_ret
      refine ⟨_, rfl, ?_, FR.out⟩
      rw [← HE.out]
      exact OW.out.base (by have := HBS.out; omega)

end Go.Proofs.Qxb6500450aGreat
