/- The query's representation; holders; Find. -/
import Derived.Test.Qxb6500450aGreatQSort
namespace Go.Proofs.Qxb6500450aGreat
open Go Go.RowKit
set_option maxRecDepth 100000
set_option maxHeartbeats 1600000
set_option linter.unusedSimpArgs false
set_option linter.unusedVariables false
variable {bS bX : Nat}

/-- The query lies in the blocks of F: its cell bQ, and the index in FX. -/
structure QC (w : World) (F : Nat → Prop) (bQ : Nat) (f : DocF) (r : Int → Nat) (bX bS : Nat) (FX : Nat → Prop) : Prop where
  q0 : At w bQ 0 (.pointer (some ⟨bX, 0, none⟩))
  x : XR bS w FX bX f r
  fx : ∀ i, FX i → F i ∧ i < w.heap.size
  fq : F bQ
  nq : ¬ FX bQ
def QR (bX bS : Nat) (w : World) (F : Nat → Prop) (bQ : Nat) (f : DocF) (r : Int → Nat) : Prop := ∃ FX, QC w F bQ f r bX bS FX
section
variable {w w' : World} {F G : Nat → Prop} {bQ : Nat} {f f' : DocF} {r r' : Int → Nat} {FX : Nat → Prop}
theorem QC.frw (h : QC w F bQ f r bX bS FX) {S : Nat → Prop} (hf : Fr S w w') (hn : ∀ i, F i → ¬ S i) : QC w' F bQ f r bX bS FX :=
  ⟨h.q0.fr hf (hn _ h.fq), h.x.frw hf (fun i hi => hn i (h.fx i hi).1), fun i hi => ⟨(h.fx i hi).1, Nat.lt_of_lt_of_le (h.fx i hi).2 hf.size⟩, h.fq, h.nq⟩
theorem QR.frw (h : QR bX bS w F bQ f r) {S : Nat → Prop} (hf : Fr S w w') (hn : ∀ i, F i → ¬ S i) : QR bX bS w' F bQ f r := by
  obtain ⟨FX, h⟩ := h
  exact ⟨FX, h.frw hf hn⟩
theorem QR.wide (h : QR bX bS w F bQ f r) (hn : ∀ i, F i → G i) : QR bX bS w G bQ f r := by
  obtain ⟨FX, h⟩ := h
  exact ⟨FX, { h with fx := fun i hi => ⟨hn i (h.fx i hi).1, (h.fx i hi).2⟩, fq := hn _ h.fq }⟩
theorem QR.bound (h : QR bX bS w F bQ f r) : QR bX bS w (fun i => F i ∧ i < w.heap.size) bQ f r := by
  obtain ⟨FX, h⟩ := h
  exact ⟨FX, { h with fx := fun i hi => ⟨⟨(h.fx i hi).1, (h.fx i hi).2⟩, (h.fx i hi).2⟩, fq := ⟨h.fq, h.q0.lt⟩ }⟩
theorem QR.ok (h : QR bX bS w F bQ f r) : OkF f := by
  obtain ⟨FX, h⟩ := h
  exact h.x.ok
theorem QR.lt (h : QR bX bS w F bQ f r) : bQ < w.heap.size := by
  obtain ⟨FX, h⟩ := h
  exact h.q0.lt
theorem QR.xr (h : QR bX bS w F bQ f r) : XR bS w F bX f r := by
  obtain ⟨FX, h⟩ := h
  exact h.x.wide (fun i hi => (h.fx i hi).1)
/-- Behind a changing call of the index. -/
theorem QC.under (h : QC w F bQ f r bX bS FX) (hf : Fr FX w w') (hx : XR bS w' (fun i => FX i ∨ w.heap.size ≤ i) bX f' r') : QR bX bS w' (fun i => F i ∨ w.heap.size ≤ i) bQ f' r' := by
  refine ⟨_, h.q0.fr hf h.nq, hx.bound, fun i hi => ⟨hi.1.elim (fun c => .inl (h.fx i c).1) .inr, hi.2⟩, .inl h.fq, fun c => ?_⟩
  rcases c.1 with c | c
  · exact h.nq c
  · have := h.q0.lt; omega
end

theorem hwD_docs {f : DocF} (ok : OkF f) {x : ByteArray} (hx : x.size ≤ 12) (i : Int) : decide (i ∈ docsOf f x) = hwD f x i := by
  unfold docsOf
  rw [if_neg (by omega)]
  by_cases h : hwD f x i = true
  · have := hwD_sup ok x i h
    rw [h, decide_eq_true (List.mem_filter.2 ⟨mem_nine this.1 this.2, h⟩)]
  · have : hwD f x i = false := by simpa using h
    rw [this, decide_eq_false (fun c => h (List.mem_filter.1 c).2)]

/-- v is a map of its own, made behind w, that holds the set d. -/
def NewSet (w w' : World) (v : Value) (d : Int → Bool) : Prop := ∃ b n, v = .map (some b) ∧ w.heap.size ≤ b ∧ MapF ik w' b (sm d) n

theorem holders_any {w : World} {F : Nat → Prop} {bQ : Nat} {f : DocF} {r : Int → Nat} (h : QR bX bS w F bQ f r) {x : ByteArray} (hx : x.size ≤ 12) :
    Calls Tryz.prog 49 #[.pointer (some ⟨bQ, 0, none⟩), .string x] w fun e w' => ∃ v, e = .returned v ∧ NewSet w w' v (hwD f x) ∧ Fr (fun _ => False) w w' := by
  have HDD : Hid (∀ i, decide (i ∈ docsOf f x) = hwD f x i) := fun i => hwD_docs h.ok hx i
  obtain ⟨FX, h⟩ := h
  have c0 := h.q0.c
  have HD := hid (idocs_any h.x x)
  have hdl := docsOf_le f x
  clear h hx
  go_enter Tryz.func49, Tryz.ntmps49
  go_wp2_with fail
  refine HD.out.mono ?_
  rintro e w1 ⟨v, rfl, ow, _, f1⟩
  have OW := hid ow
  have F1 := hid f1
  clear ow f1 HD c0
  obtain ⟨l, hl⟩ : ∃ l, l = docsOf f x := ⟨_, rfl⟩
  rw [← hl] at OW HDD hdl
  clear hl
  obtain ⟨ia, ic, hiv⟩ : ∃ a c, v = .slice a l.length c := by
    rcases OW.out.empty with ⟨e1, e2⟩ | ⟨g, cap, e1, _⟩
    · exact ⟨none, 0, by rw [e1, e2]; rfl⟩
    · exact ⟨_, cap, e1⟩
  subst hiv
  have hlb : (l.length : Int) ≤ 9 := by omega
  have m1 := mkQ
  have M0 := hid (MapF.new ik w1)
  have F0 := hid (F1.out.alloc (.map #[] 0))
  have OW0 := hid (OW.out.fr ((Fr.refl (fun _ => False) w1).alloc (.map #[] 0)) (fun _ _ h => h))
  go_upto_region 3 with fail
  generalize w1.alloc (.map #[] 0) = w2 at *
  obtain ⟨bo, hbo⟩ : ∃ bo, bo = w1.heap.size := ⟨_, rfl⟩
  rw [← hbo] at M0 ⊢
  have HBO : Hid (w.heap.size ≤ bo ∧ bo = w1.heap.size) := ⟨by rw [hbo]; exact F1.out.size, hbo⟩
  clear hbo m1
  go_wp2_with fail
  go_loopw [20] (fun b wr => ∃ k n : Nat, k ≤ l.length ∧ b = .int .i64 k ∧ MapF ik wr bo (sm (fun i => decide (i ∈ l.take k))) n ∧ Fr (fun i => i = bo) w2 wr) (fun b _ => l.length - (intOf b).toNat)
  case atStart =>
    refine ⟨0, 0, by omega, rfl, ?_, Fr.refl _ _⟩
    have e : (fun i : Int => decide (i ∈ l.take 0)) = fun _ => false := by funext i; simp
    rw [e, ← sm_no]
    exact M0.out
  case round =>
    clear M0
    obtain ⟨k, n, hk, rfl, mo, fr⟩ := hrel
    have MO := hid mo
    have FR := hid fr
    have hk0 : (0 : Int) ≤ (k : Int) := by omega
    clear mo fr
    by_cases hlt : k < l.length
    · have hltI : (k : Int) < (l.length : Int) := by omega
      rcases OW.out.empty with ⟨_, hn⟩ | ⟨gi, ci, hv, hgb, hgl⟩
      · rw [hn] at hlt; simp at hlt
      cases hv
      have hgne : ¬ gi = bo := fun e => by have := HBO.out.2; omega
      have ci' := ((OW0.out.cell rfl hlt).fr FR.out hgne).c
      have HTK : Hid ((fun j : Int => decide (j ∈ l.take k) || decide (j = l.getD k 0)) = fun i => decide (i ∈ l.take (k + 1))) := by
        funext i
        have : l.getD k 0 = l[k] := by simp [List.getD, hlt]
        rw [List.take_succ_eq_append_getElem hlt, this, Bool.eq_iff_iff]
        simp only [Bool.or_eq_true, decide_eq_true_eq, List.mem_append, List.mem_singleton]
      generalize l.getD k 0 = id at *
      go_wp2_with (first
        | (at_mapUpdate; refine wp_upd rfl rfl kInt uQSet MO.out rfl (k := id) rfl (u := .bool true) rfl ?_; intro w4 hm4 hf4 hs4; go_frame)
        | go_in)
      rw [sm_put, HTK.out] at hm4
      exact ⟨⟨k + 1, _, by omega, by go_num, hm4, FR.out.trans hf4⟩, by simp [intOf]; omega⟩
    · have hltI : ¬ (k : Int) < (l.length : Int) := by omega
      have e : (fun i : Int => decide (i ∈ l.take k)) = hwD f x := by
        funext i
        rw [List.take_of_length_le (by omega)]
        exact HDD.out i
      rw [e] at MO
      clear e
      go_wp2_with fail
      go_ret
      exact ⟨_, rfl, ⟨bo, n, rfl, HBO.out.1, MO.out⟩, F0.out.then FR.out (fun i hi c => by have := HBO.out; omega)⟩

/-- What Find answers. -/
def findE (op : Int) (a b : ByteArray) : Int := if 12 < a.size ∨ 12 < b.size then 1 else if op < 1 ∨ 3 < op then 7 else 0
def findD (f : DocF) (op : Int) (a b : ByteArray) (i : Int) : Bool := if op = 1 then hwD f a i && hwD f b i else if op = 2 then hwD f a i || hwD f b i else hwD f a i && !hwD f b i
def findL (f : DocF) (op : Int) (a b : ByteArray) : List Int := if findE op a b = 0 then nine.filter (findD f op a b) else []
theorem findL_le (f : DocF) (op : Int) (a b : ByteArray) : (findL f op a b).length ≤ 9 := by
  unfold findL
  split
  · exact List.length_filter_le _ _
  · simp
theorem findL_i64 (f : DocF) (op : Int) (a b : ByteArray) : ∀ n ∈ findL f op a b, I64 n := by
  intro n hn
  unfold findL at hn
  split at hn
  · have := nine_mem (List.mem_filter.1 hn).1
    unfold I64; omega
  · simp at hn
theorem findD_sup {f : DocF} (ok : OkF f) (op : Int) (a b : ByteArray) (i : Int) (h : findD f op a b i = true) : 1 ≤ i ∧ i ≤ 9 := by
  unfold findD at h
  split at h
  · simp at h; exact hwD_sup ok a i h.1
  · split at h
    · simp at h
      rcases h with h | h
      · exact hwD_sup ok a i h
      · exact hwD_sup ok b i h
    · simp at h; exact hwD_sup ok a i h.1

theorem uKnown : Tryz.prog.underlying 85 = some (.map 3 4) := by kernel_rfl

theorem wp_ins {K : Type} [DecidableEq K] {P : Program} {w : World} {ops : Array Oper} {rest : List Oper} {o : Oper} {a : Act} {Q : Exit → Act → World → Prop} {mt kt et : TypeId} {kv : K → Value} (hg : o.guard = none) {m x v : Operand} (hop : o.op = Op.insert mt m x v) (L : KL P kt kv) (hm : P.underlying mt = some (.map kt et))
    {b n : Nat} {f : K → Option Value} (h : MapF kv w b f n) (em : a.eval m = .map (some b)) {k : K} (ex : a.eval x = kv k) {u : Value} (ev : a.eval v = u)
    (hK : ∀ w', MapF kv w' b (updF f k (some u)) (if (f k).isSome then n else n + 1) → Fr (fun i => i = b) w w' → w'.heap.size = w.heap.size → wpList P ops Q rest (a.put o.dst undef) w') : wpList P ops Q (o :: rest) a w := by
  refine wpList_plain hg fun K' hK' => ?_
  obtain ⟨w', hrun, r1, r2, r3⟩ := h.update L hm k u
  unfold Oper.wp
  simp [execOp, hop, em, ex, ev, hrun, Result.andThen]
  exact hK' _ _ (hK w' r1 r2 r3)

theorem find_any {w : World} {F : Nat → Prop} {bQ : Nat} {f : DocF} {r : Int → Nat} (h : QR bX bS w F bQ f r) (op : Int) (a b : ByteArray) :
    Calls Tryz.prog 25 #[.pointer (some ⟨bQ, 0, none⟩), .int .i64 op, .string a, .string b] w fun e w' => ∃ v, e = .returned (.tuple #[v, .int .i64 (findE op a b)]) ∧ OwnI w' w.heap.size v (findL f op a b) ∧ (findL f op a b = [] → v = .slice none 0 0) ∧ Fr (fun _ => False) w w' := by
  have H := hid h
  have HO := hid h.ok
  clear h
  by_cases hA : 12 < a.size
  · have HE : Hid (findE op a b = 1) := by unfold Hid findE; rw [if_pos (.inl hA)]
    have HL : Hid (findL f op a b = []) := by unfold Hid findL; rw [HE.out, if_neg (by omega)]
    have hAI : (12 : Int) < (a.size : Int) := by omega
    clear hA
    go_enter Tryz.func25, Tryz.ntmps25
    go_wp2_with fail
    go_ret2
    rw [HE.out, HL.out]
    exact ⟨_, rfl, OwnI.nil _ _, fun _ => rfl, Fr.refl _ _⟩
  have hAI : ¬ (12 : Int) < (a.size : Int) := by omega
  by_cases hB : 12 < b.size
  · have HE : Hid (findE op a b = 1) := by unfold Hid findE; rw [if_pos (.inr hB)]
    have HL : Hid (findL f op a b = []) := by unfold Hid findL; rw [HE.out, if_neg (by omega)]
    have hBI : (12 : Int) < (b.size : Int) := by omega
    clear hA hB
    go_enter Tryz.func25, Tryz.ntmps25
    go_wp2_with fail
    go_ret2
    rw [HE.out, HL.out]
    exact ⟨_, rfl, OwnI.nil _ _, fun _ => rfl, Fr.refl _ _⟩
  have hBI : ¬ (12 : Int) < (b.size : Int) := by omega
  have m2 := @run_makeMap Tryz.prog
  have M0 := hid (MapF.new ik w)
  rw [sm_no] at M0
  have F0 := hid ((Fr.refl (fun _ => False) w).alloc (.map #[] 0))
  by_cases hop : op = 1
  · subst hop
    have HL : Hid (findL f 1 a b = nine.filter (fun i => hwD f a i && hwD f b i)) := by
      unfold Hid findL
      rw [if_pos (by unfold findE; rw [if_neg (by omega)]; rfl)]
      rfl
    have HE : Hid (findE 1 a b = 0) := by unfold Hid findE; rw [if_neg (by omega)]; rfl
    have HSUP : Hid (∀ i, (fun i => hwD f a i && hwD f b i) i = true → 1 ≤ i ∧ i ≤ 9) := fun i hi => findD_sup HO.out 1 a b i hi
    clear hA hB
    go_enter Tryz.func25, Tryz.ntmps25
    go_upto_region 6 with (first
      | (refine wp_ins rfl rfl kInt uKnown M0.out rfl (k := 1) rfl (u := .bool true) rfl ?_; intro w1 hm1 hf1 hs1; rw [sm_put] at hm1)
      | (refine wp_ins rfl rfl kInt uKnown hm1 rfl (k := 2) rfl (u := .bool true) rfl ?_; intro w2 hm2 hf2 hs2; rw [sm_put] at hm2)
      | (refine wp_ins rfl rfl kInt uKnown hm2 rfl (k := 3) rfl (u := .bool true) rfl ?_; intro w3 hm3 hf3 hs3; rw [sm_put] at hm3)
      | (at_lookup; refine wp_look1 rfl rfl kInt uKnown zBool hm3 rfl (k := 1) rfl (sm_get _ _) ?_)
      | go_in)
    have FB : Hid (Fr (fun _ => False) w w3) := ((F0.out.then hf1 (fun i hi e => by omega)).then hf2 (fun i hi e => by omega)).then hf3 (fun i hi e => by omega)
    have Q3 := hid (H.out.frw FB.out (fun _ _ h => h))
    clear hm1 hm2 hm3 hf1 hf2 hf3 hs1 hs2 hs3 M0 F0 m2
    go_wp2_with fail
    refine (holders_any Q3.out (by omega : a.size ≤ 12)).mono ?_
    rintro e w4 ⟨va, rfl, ⟨b4, n4, rfl, hb4, m4⟩, f4⟩
    have M4 := hid m4
    have Q4 := hid (Q3.out.frw f4 (fun _ _ h => h))
    have FB4 := hid (FB.out.trans f4)
    clear m4 f4 Q3 hb4
    go_wp2_with fail
    refine (holders_any Q4.out (by omega : b.size ≤ 12)).mono ?_
    rintro e w5 ⟨vb, rfl, ⟨b5, n5, rfl, hb5, m5⟩, f5⟩
    have M5 := hid m5
    have M45 := hid (M4.out.fr f5 (fun h => h))
    have FB5 := hid (FB4.out.trans f5)
    clear m5 f5 Q4 M4 hb5
    go_wp2_with fail
    refine (both_any M45.out M5.out).mono ?_
    rintro e w6 ⟨vs, rfl, sv, f6⟩
    have SV := hid sv
    have FB6 := hid (FB5.out.trans f6)
    clear sv f6
    go_wp2_with fail
    refine (sorted_any SV.out HSUP.out).mono ?_
    rintro e w7 ⟨v7, rfl, o7, n7, f7⟩
    have O7 := hid (o7.mono FB6.out.size)
    have N7 := hid n7
    have FB7 := hid (FB6.out.trans f7)
    clear o7 n7 f7
    go_wp2_with fail
    go_ret2
    rw [HL.out, HE.out]
    exact ⟨_, rfl, O7.out, N7.out, FB7.out⟩
  by_cases hop2 : op = 2
  · subst hop2
    have HL : Hid (findL f 2 a b = nine.filter (fun i => hwD f a i || hwD f b i)) := by
      unfold Hid findL
      rw [if_pos (by unfold findE; rw [if_neg (by omega)]; rfl)]
      rfl
    have HE : Hid (findE 2 a b = 0) := by unfold Hid findE; rw [if_neg (by omega)]; rfl
    have HSUP : Hid (∀ i, (fun i => hwD f a i || hwD f b i) i = true → 1 ≤ i ∧ i ≤ 9) := fun i hi => findD_sup HO.out 2 a b i hi
    clear hA hB
    go_enter Tryz.func25, Tryz.ntmps25
    go_upto_region 6 with (first
      | (refine wp_ins rfl rfl kInt uKnown M0.out rfl (k := 1) rfl (u := .bool true) rfl ?_; intro w1 hm1 hf1 hs1; rw [sm_put] at hm1)
      | (refine wp_ins rfl rfl kInt uKnown hm1 rfl (k := 2) rfl (u := .bool true) rfl ?_; intro w2 hm2 hf2 hs2; rw [sm_put] at hm2)
      | (refine wp_ins rfl rfl kInt uKnown hm2 rfl (k := 3) rfl (u := .bool true) rfl ?_; intro w3 hm3 hf3 hs3; rw [sm_put] at hm3)
      | (at_lookup; refine wp_look1 rfl rfl kInt uKnown zBool hm3 rfl (k := 2) rfl (sm_get _ _) ?_)
      | go_in)
    have FB : Hid (Fr (fun _ => False) w w3) := ((F0.out.then hf1 (fun i hi e => by omega)).then hf2 (fun i hi e => by omega)).then hf3 (fun i hi e => by omega)
    have Q3 := hid (H.out.frw FB.out (fun _ _ h => h))
    clear hm1 hm2 hm3 hf1 hf2 hf3 hs1 hs2 hs3 M0 F0 m2
    go_wp2_with fail
    refine (holders_any Q3.out (by omega : a.size ≤ 12)).mono ?_
    rintro e w4 ⟨va, rfl, ⟨b4, n4, rfl, hb4, m4⟩, f4⟩
    have M4 := hid m4
    have Q4 := hid (Q3.out.frw f4 (fun _ _ h => h))
    have FB4 := hid (FB.out.trans f4)
    clear m4 f4 Q3 hb4
    go_wp2_with fail
    refine (holders_any Q4.out (by omega : b.size ≤ 12)).mono ?_
    rintro e w5 ⟨vb, rfl, ⟨b5, n5, rfl, hb5, m5⟩, f5⟩
    have M5 := hid m5
    have M45 := hid (M4.out.fr f5 (fun h => h))
    have FB5 := hid (FB4.out.trans f5)
    clear m5 f5 Q4 M4 hb5
    go_wp2_with fail
    refine (either_any M45.out M5.out).mono ?_
    rintro e w6 ⟨vs, rfl, sv, f6⟩
    have SV := hid sv
    have FB6 := hid (FB5.out.trans f6)
    clear sv f6
    go_wp2_with fail
    refine (sorted_any SV.out HSUP.out).mono ?_
    rintro e w7 ⟨v7, rfl, o7, n7, f7⟩
    have O7 := hid (o7.mono FB6.out.size)
    have N7 := hid n7
    have FB7 := hid (FB6.out.trans f7)
    clear o7 n7 f7
    go_wp2_with fail
    go_ret2
    rw [HL.out, HE.out]
    exact ⟨_, rfl, O7.out, N7.out, FB7.out⟩
  by_cases hop3 : op = 3
  · subst hop3
    have HL : Hid (findL f 3 a b = nine.filter (fun i => hwD f a i && !hwD f b i)) := by
      unfold Hid findL
      rw [if_pos (by unfold findE; rw [if_neg (by omega)]; rfl)]
      rfl
    have HE : Hid (findE 3 a b = 0) := by unfold Hid findE; rw [if_neg (by omega)]; rfl
    have HSUP : Hid (∀ i, (fun i => hwD f a i && !hwD f b i) i = true → 1 ≤ i ∧ i ≤ 9) := fun i hi => findD_sup HO.out 3 a b i hi
    clear hA hB
    go_enter Tryz.func25, Tryz.ntmps25
    go_upto_region 6 with (first
      | (refine wp_ins rfl rfl kInt uKnown M0.out rfl (k := 1) rfl (u := .bool true) rfl ?_; intro w1 hm1 hf1 hs1; rw [sm_put] at hm1)
      | (refine wp_ins rfl rfl kInt uKnown hm1 rfl (k := 2) rfl (u := .bool true) rfl ?_; intro w2 hm2 hf2 hs2; rw [sm_put] at hm2)
      | (refine wp_ins rfl rfl kInt uKnown hm2 rfl (k := 3) rfl (u := .bool true) rfl ?_; intro w3 hm3 hf3 hs3; rw [sm_put] at hm3)
      | (at_lookup; refine wp_look1 rfl rfl kInt uKnown zBool hm3 rfl (k := 3) rfl (sm_get _ _) ?_)
      | go_in)
    have FB : Hid (Fr (fun _ => False) w w3) := ((F0.out.then hf1 (fun i hi e => by omega)).then hf2 (fun i hi e => by omega)).then hf3 (fun i hi e => by omega)
    have Q3 := hid (H.out.frw FB.out (fun _ _ h => h))
    clear hm1 hm2 hm3 hf1 hf2 hf3 hs1 hs2 hs3 M0 F0 m2
    go_wp2_with fail
    refine (holders_any Q3.out (by omega : a.size ≤ 12)).mono ?_
    rintro e w4 ⟨va, rfl, ⟨b4, n4, rfl, hb4, m4⟩, f4⟩
    have M4 := hid m4
    have Q4 := hid (Q3.out.frw f4 (fun _ _ h => h))
    have FB4 := hid (FB.out.trans f4)
    clear m4 f4 Q3 hb4
    go_wp2_with fail
    refine (holders_any Q4.out (by omega : b.size ≤ 12)).mono ?_
    rintro e w5 ⟨vb, rfl, ⟨b5, n5, rfl, hb5, m5⟩, f5⟩
    have M5 := hid m5
    have M45 := hid (M4.out.fr f5 (fun h => h))
    have FB5 := hid (FB4.out.trans f5)
    clear m5 f5 Q4 M4 hb5
    go_wp2_with fail
    refine (without_any M45.out M5.out).mono ?_
    rintro e w6 ⟨vs, rfl, sv, f6⟩
    have SV := hid sv
    have FB6 := hid (FB5.out.trans f6)
    clear sv f6
    go_wp2_with fail
    refine (sorted_any SV.out HSUP.out).mono ?_
    rintro e w7 ⟨v7, rfl, o7, n7, f7⟩
    have O7 := hid (o7.mono FB6.out.size)
    have N7 := hid n7
    have FB7 := hid (FB6.out.trans f7)
    clear o7 n7 f7
    go_wp2_with fail
    go_ret2
    rw [HL.out, HE.out]
    exact ⟨_, rfl, O7.out, N7.out, FB7.out⟩
  have HE : Hid (findE op a b = 7) := by unfold Hid findE; rw [if_neg (by omega), if_pos (by omega)]
  have HL : Hid (findL f op a b = []) := by unfold Hid findL; rw [HE.out, if_neg (by omega)]
  have hd : (((false || decide (op = 1)) || decide (op = 2)) || decide (op = 3)) = false := by simp [hop, hop2, hop3]
  clear hA hB hop hop2 hop3
  go_enter Tryz.func25, Tryz.ntmps25
  go_wp2_with (first
    | (refine wp_ins rfl rfl kInt uKnown M0.out rfl (k := 1) rfl (u := .bool true) rfl ?_; intro w1 hm1 hf1 hs1; rw [sm_put] at hm1)
    | (refine wp_ins rfl rfl kInt uKnown hm1 rfl (k := 2) rfl (u := .bool true) rfl ?_; intro w2 hm2 hf2 hs2; rw [sm_put] at hm2)
    | (refine wp_ins rfl rfl kInt uKnown hm2 rfl (k := 3) rfl (u := .bool true) rfl ?_; intro w3 hm3 hf3 hs3; rw [sm_put] at hm3)
    | (at_lookup; refine wp_look1 rfl rfl kInt uKnown zBool hm3 rfl (k := op) rfl ((sm_get _ _).trans (congrArg Value.bool hd)) ?_)
    | go_in)
  go_ret2
  rw [HE.out, HL.out]
  exact ⟨_, rfl, OwnI.nil _ _, fun _ => rfl, ((F0.out.then hf1 (fun i hi e => by omega)).then hf2 (fun i hi e => by omega)).then hf3 (fun i hi e => by omega)⟩

end Go.Proofs.Qxb6500450aGreat
