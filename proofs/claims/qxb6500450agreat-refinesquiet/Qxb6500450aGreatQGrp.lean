/- Rows of counts; Groups. -/
import Derived.Test.Qxb6500450aGreatQFind
namespace Go.Proofs.Qxb6500450aGreat
open Go Go.RowKit
set_option maxRecDepth 100000
set_option maxHeartbeats 1600000
set_option linter.unusedSimpArgs false
set_option linter.unusedVariables false
variable {bS bX : Nat}

abbrev C2 := Int × Int
def cells2 : List C2 → List Value
  | [] => []
  | d :: l => .int .i64 d.1 :: .int .i64 d.2 :: cells2 l
theorem cells2_len : ∀ l : List C2, (cells2 l).length = l.length * 2
  | [] => rfl
  | d :: l => by simp [cells2, cells2_len l]; omega
theorem cells2_append : ∀ l m : List C2, cells2 (l ++ m) = cells2 l ++ cells2 m
  | [], _ => rfl
  | d :: l, m => by simp [cells2, cells2_append l m]
theorem cells2_get : ∀ (l : List C2) (j : Nat) (hj : j < l.length), (cells2 l)[j * 2]? = some (.int .i64 (l.getD j (0, 0)).1) ∧ (cells2 l)[j * 2 + 1]? = some (.int .i64 (l.getD j (0, 0)).2)
  | [], j, hj => by simp at hj
  | d :: l, 0, _ => ⟨rfl, rfl⟩
  | d :: l, j + 1, hj => by
    have h := cells2_get l j (by simpa using hj)
    have e : (j + 1) * 2 = j * 2 + 1 + 1 := by omega
    simp only [cells2, e, List.getElem?_cons_succ, List.getD_cons_succ]
    exact h
theorem cells2_set : ∀ (l : List C2) (j : Nat) (d : C2), cells2 (l.set j d) = ((cells2 l).set (j * 2) (.int .i64 d.1)).set (j * 2 + 1) (.int .i64 d.2)
  | [], j, d => by simp [cells2]
  | x :: l, 0, d => rfl
  | x :: l, j + 1, d => by
    have h := cells2_set l j d
    have e : (j + 1) * 2 = j * 2 + 1 + 1 := by omega
    simp only [List.set_cons_succ, cells2, e, h]

def OwnC (w : World) (base : Nat) (v : Value) (l : List C2) : Prop := w.ownsRow base 96 2 v l.length (cells2 l)
theorem OwnC.nil (w : World) (base : Nat) : OwnC w base (.slice none 0 0) [] := World.ownsRow_nil w base _ _
theorem OwnC.fr {w w' : World} {base : Nat} {v : Value} {l : List C2} (h : OwnC w base v l) {S : Nat → Prop} (hf : Fr S w w') (hn : ∀ k, v.ownBlock = some k → ¬ S k) : OwnC w' base v l := ownsRow_fr h hf hn
theorem OwnC.lt {w : World} {base : Nat} {v : Value} {l : List C2} (h : OwnC w base v l) {k : Nat} (hk : v.ownBlock = some k) : base ≤ k ∧ k < w.heap.size := World.ownsRow.lt h k hk
theorem OwnC.base {w : World} {base base' : Nat} {v : Value} {l : List C2} (h : OwnC w base v l) (hb : base' ≤ base) : OwnC w base' v l := by
  refine ⟨h.1, ?_⟩
  rcases h.2 with h2 | ⟨g, cap, cur, h1, h2, rest⟩
  · exact .inl h2
  · exact .inr ⟨g, cap, cur, h1, Nat.le_trans hb h2, rest⟩
theorem OwnC.empty {w : World} {base : Nat} {v : Value} {l : List C2} (h : OwnC w base v l) : (v = .slice none 0 0 ∧ l = []) ∨ ∃ g cap, v = .slice (some ⟨g, 0, none⟩) l.length cap ∧ base ≤ g ∧ g < w.heap.size := by
  rcases h.2 with ⟨h1, h2⟩ | ⟨g, cap, cur, h1, h2, h3, _⟩
  · exact .inl ⟨h1, List.eq_nil_of_length_eq_zero h2⟩
  · exact .inr ⟨g, cap, h1, h2, (Array.getElem?_eq_some_iff.1 h3).1⟩
theorem OwnC.form {w : World} {base : Nat} {v : Value} {l : List C2} (h : OwnC w base v l) : ∃ a cap, v = .slice a l.length cap := by
  rcases h.empty with ⟨rfl, rfl⟩ | ⟨g, cap, rfl, _⟩
  · exact ⟨none, 0, rfl⟩
  · exact ⟨_, cap, rfl⟩
theorem OwnC.cell {w : World} {base g cap n : Nat} {l : List C2} (h : OwnC w base (.slice (some ⟨g, 0, none⟩) n cap) l) (hn : n = l.length) {j : Nat} (hj : j < l.length) :
    At w g (j * 2) (.int .i64 (l.getD j (0, 0)).1) ∧ At w g (j * 2 + 1) (.int .i64 (l.getD j (0, 0)).2) := by
  subst hn
  obtain ⟨h0, h1⟩ := cells2_get l j hj
  refine ⟨⟨?_, World.ownsRow.frozenAt h _⟩, ⟨?_, World.ownsRow.frozenAt h _⟩⟩
  · rw [World.ownsRow.cellAt h _ (by omega)]; exact h0
  · rw [World.ownsRow.cellAt h _ (by omega)]; exact h1
theorem OwnC.set {w : World} {base g cap n : Nat} {l : List C2} (h : OwnC w base (.slice (some ⟨g, 0, none⟩) n cap) l) (hn : n = l.length) (j : Nat) (d : C2) :
    OwnC ((w.setCell ⟨g, j * 2, none⟩ (.int .i64 d.1)).setCell ⟨g, j * 2 + 1, none⟩ (.int .i64 d.2)) base (.slice (some ⟨g, 0, none⟩) n cap) (l.set j d) := by
  subst hn
  have h1 := (World.ownsRow.stored h (j * 2) (.int .i64 d.1)).1
  have h2 := (World.ownsRow.stored h1 (j * 2 + 1) (.int .i64 d.2)).1
  unfold OwnC
  rw [List.length_set, cells2_set]
  exact h2
theorem infoCnt : (Tryz.prog.info? 96).map (fun i => (i.zero, i.size, i.bytes)) = some (some (.agg #[.int .i64 0, .int .i64 0]), 2, 16) := by kernel_rfl
theorem uSliceCnt : Tryz.prog.underlying 63 = some (.slice 96) := by kernel_rfl
theorem wp_appC {w : World} {ops : Array Oper} {rest : List Oper} {o : Oper} {a : Act} {Q : Exit → Act → World → Prop} (hgd : o.guard = none) {s x : Operand}
    (ho : o.op = .call { callee := .builtin .append, args := #[s, x], argTypes := #[63, 63] }) {base : Nat} {v : Value} {l : List C2} (hs : a.eval s = v) (hown : OwnC w base v l)
    {B c : Nat} (hx : a.eval x = .slice (some ⟨B, 0, none⟩) 1 c) {y : C2} (h0 : w.cell? ⟨B, 0, none⟩ = some (.int .i64 y.1)) (h1 : w.cell? ⟨B, 1, none⟩ = some (.int .i64 y.2)) (hlen : l.length ≤ 1000000) (hbase : base ≤ w.heap.size)
    (h : ∀ g cap w', OwnC w' base (.slice (some ⟨g, 0, none⟩) (l.length + 1) cap) (l ++ [y]) → Fr (fun i => v.ownBlock = some i) w w' → (v.ownBlock = some g ∨ g = w.heap.size) → g < w'.heap.size → wpList Tryz.prog ops Q rest (a.put o.dst (.slice (some ⟨g, 0, none⟩) (l.length + 1) cap)) w') :
    wpList Tryz.prog ops Q (o :: rest) a w := by
  obtain ⟨i0, hi, hz0, hz1, hz2⟩ := info_parts infoCnt
  refine wpList_append_lies w hgd s x 63 ho base 96 i0 (.agg #[.int .i64 0, .int .i64 0]) 2 16 uSliceCnt hi hz0 hz1 hz2 rfl (by decide) v l.length (cells2 l) hs hown ⟨B, 0, none⟩ 1 c [.int .i64 y.1, .int .i64 y.2] hx rfl ?_ ?_ (by decide) (by unfold maxLen; omega) (by omega) hbase w.heap.size rfl ?_
  · intro j u hj
    rw [add_addr]
    match j, hj with
    | 0, hj => simp at hj; subst hj; exact h0
    | 1, hj => simp at hj; subst hj; exact h1
    | j + 2, hj => simp at hj
  · intro u hu
    simp at hu
    rcases hu with rfl | rfl <;> rfl
  · intro g cap w' r1 r2 r3 r4
    refine h g cap w' ?_ (Fr.of_grown r2) r3 r4
    unfold OwnC
    rw [List.length_append, cells2_append]
    exact r1

/-- What Groups answers. -/
def grpK (f : DocF) (x : ByteArray) (k : Nat) : List C2 := (List.range k).filterMap fun j : Nat => if tlK f ((j : Int), x) = 0 then none else some ((j : Int), (tlK f ((j : Int), x) : Int))
def grpsL (f : DocF) (x : ByteArray) : List C2 := if 12 < x.size then [] else grpK f x 3
def grpsE (x : ByteArray) : Int := if 12 < x.size then 1 else 0
theorem grpK_succ (f : DocF) (x : ByteArray) (k : Nat) : grpK f x (k + 1) = grpK f x k ++ (if tlK f ((k : Int), x) = 0 then [] else [((k : Int), (tlK f ((k : Int), x) : Int))]) := by
  unfold grpK
  rw [List.range_succ, List.filterMap_append]
  by_cases h : tlK f ((k : Int), x) = 0 <;> simp [h]
theorem grpK_len (f : DocF) (x : ByteArray) (k : Nat) : (grpK f x k).length ≤ k := by
  unfold grpK
  exact Nat.le_trans (List.length_filterMap_le _ _) (by simp)
/-- How many of l are in group g. -/
def cG (f : DocF) (l : List Int) (g : Int) : Nat := l.countP fun i => decide ((getP f i).g = g)
theorem cG_snoc (f : DocF) (l : List Int) (i : Int) : cG f (l ++ [i]) = incC (cG f l) (getP f i).g := by
  funext g
  unfold cG incC
  rw [List.countP_append, List.countP_singleton]
  by_cases h : g = (getP f i).g
  · subst h; simp
  · have h' : ¬ (getP f i).g = g := fun e => h e.symm
    simp [h, h']
theorem cG_le (f : DocF) (l : List Int) (g : Int) : cG f l g ≤ l.length := List.countP_le_length
theorem cG_docs {f : DocF} (ok : OkF f) {x : ByteArray} (hx : x.size ≤ 12) : cG f (docsOf f x) = fun g => tlK f (g, x) := by
  funext g
  unfold cG docsOf tlK
  rw [if_neg (by omega), List.countP_filter]
  apply List.countP_congr
  intro i _
  obtain e | ⟨⟨g', t⟩, e⟩ := opt (f i)
  · simp [hwD_none e]
  · have hr := ok.rng i _ e
    have hg : goodB i = true := good_iff.2 ⟨hr.1, hr.2.1⟩
    have : (getP f i).g = g' := by simp [getP, hg, e]
    rw [this, has_of e]
    by_cases h : g' = g
    · subst h; simp
    · have h' : ¬ g = g' := fun e => h e.symm
      simp [h, h']

theorem uCnt : Tryz.prog.underlying 74 = some (.map 3 3) := by kernel_rfl
theorem cm_zeroQ : (fun _ => none) = cm (fun _ => 0) := by funext k; simp [cm]

theorem groups_any {w : World} {F : Nat → Prop} {bQ : Nat} {f : DocF} {r : Int → Nat} (h : QR bX bS w F bQ f r) (x : ByteArray) :
    Calls Tryz.prog 27 #[.pointer (some ⟨bQ, 0, none⟩), .string x] w fun e w' => ∃ v, e = .returned (.tuple #[v, .int .i64 (grpsE x)]) ∧ OwnC w' w.heap.size v (grpsL f x) ∧ (grpsL f x = [] → v = .slice none 0 0) ∧ Fr (fun _ => False) w w' := by
  by_cases hL : 12 < x.size
  · have HE : Hid (grpsE x = 1 ∧ grpsL f x = []) := ⟨by unfold grpsE; rw [if_pos hL], by unfold grpsL; rw [if_pos hL]⟩
    have hI : (12 : Int) < (x.size : Int) := by omega
    clear hL h
    go_enter Tryz.func27, Tryz.ntmps27
    go_wp2_with fail
    go_ret2
    rw [HE.out.1, HE.out.2]
    exact ⟨_, rfl, OwnC.nil _ _, fun _ => rfl, Fr.refl _ _⟩
  have HE : Hid (grpsE x = 0 ∧ grpsL f x = grpK f x 3) := ⟨by unfold grpsE; rw [if_neg hL], by unfold grpsL; rw [if_neg hL]⟩
  have hI : ¬ (12 : Int) < (x.size : Int) := by omega
  have HCD := hid (cG_docs h.ok (x := x) (by omega))
  obtain ⟨FX, h⟩ := h
  have H := hid h
  have hdl := docsOf_le f x
  have m2 := @run_makeMap Tryz.prog
  have M0 := hid (MapF.new ik w)
  rw [cm_zeroQ] at M0
  have F0 := hid ((Fr.refl (fun _ => False) w).alloc (.map #[] 0))
  have H0 := hid (h.frw F0.out (fun _ _ h => h))
  clear h hL
  go_enter Tryz.func27, Tryz.ntmps27
  go_upto_region 4 with fail
  generalize w.alloc (.map #[] 0) = w0 at *
  obtain ⟨bc, hbc⟩ : ∃ bc, bc = w.heap.size := ⟨_, rfl⟩
  rw [← hbc] at M0 ⊢
  have HBC := hid hbc
  clear hbc m2
  have c0 := H0.out.q0.c
  have HD := hid (idocs_any H0.out.x x)
  go_wp2_with fail
  refine HD.out.mono ?_
  rintro e w1 ⟨v, rfl, ow, _, f1⟩
  have OW := hid ow
  have F1 := hid (F0.out.trans f1)
  have H1 := hid (H0.out.frw f1 (fun _ _ h => h))
  have M1 := hid (M0.out.fr f1 (fun h => h))
  have HZ0 : Hid (bc < w0.heap.size) := M0.out.lt
  clear ow f1 HD c0 H0 M0
  obtain ⟨l, hl⟩ : ∃ l, l = docsOf f x := ⟨_, rfl⟩
  rw [← hl] at OW HCD hdl
  clear hl
  obtain ⟨ia, ic, hiv⟩ : ∃ a c, v = .slice a l.length c := by
    rcases OW.out.empty with ⟨e1, e2⟩ | ⟨g, cap, e1, _⟩
    · exact ⟨none, 0, by rw [e1, e2]; rfl⟩
    · exact ⟨_, cap, e1⟩
  subst hiv
  have hlb : (l.length : Int) ≤ 9 := by omega
  have HNF : Hid (∀ i, F i ∧ i < w.heap.size → ¬ i = bc) := fun i hi e => by have := HBC.out; omega
  have HB1 : Hid (QC w1 (fun i => F i ∧ i < w.heap.size) bQ f r bX bS FX) := { H1.out with fx := fun i hi => ⟨H.out.fx i hi, (H1.out.fx i hi).2⟩, fq := ⟨H.out.fq, H.out.q0.lt⟩ }
  clear H1
  go_wp2_with fail
  go_loopw [26] (fun b wr => ∃ k n : Nat, k ≤ l.length ∧ b = .int .i64 k ∧ MapF ik wr bc (cm (cG f (l.take k))) n ∧ Fr (fun i => i = bc) w1 wr) (fun b _ => l.length - (intOf b).toNat)
  case atStart => exact ⟨0, 0, by omega, rfl, M1.out, Fr.refl _ _⟩
  case round =>
    clear M1
    obtain ⟨k, n, hk, rfl, mo, fr⟩ := hrel
    have MO := hid mo
    have FR := hid fr
    have hk0 : (0 : Int) ≤ (k : Int) := by omega
    clear mo fr
    have HQ := hid (HB1.out.frw FR.out HNF.out)
    by_cases hlt : k < l.length
    · have hltI : (k : Int) < (l.length : Int) := by omega
      rcases OW.out.empty with ⟨_, hn⟩ | ⟨gi, ci, hv, hgb, hgl⟩
      · rw [hn] at hlt; simp at hlt
      cases hv
      have hgne : ¬ gi = bc := fun e => by have := HZ0.out; omega
      have ci' := ((OW.out.cell rfl hlt).fr FR.out hgne).c
      have HTK : Hid (cG f (l.take (k + 1)) = incC (cG f (l.take k)) (getP f (l.getD k 0)).g) := by
        unfold Hid
        have : l.getD k 0 = l[k] := by simp [List.getD, hlt]
        rw [List.take_succ_eq_append_getElem hlt, this, cG_snoc]
      generalize l.getD k 0 = id at *
      have c0 := HQ.out.q0.c
      go_wp2_with fail
      refine (igroup_any HQ.out.x id).mono ?_
      rintro e w3 ⟨rfl, f3⟩
      have M3 := hid (MO.out.fr f3 (fun h => h))
      have F3 := hid (FR.out.trans (f3.mono (fun _ _ h => h.elim)))
      have hcl := cG_le f (l.take k) (getP f id).g
      have hct : (l.take k).length ≤ l.length := List.length_take_le' _ _
      generalize (getP f id).g = g at *
      generalize hcc : cG f (l.take k) = cc at *
      have h9 : (cc g : Int) ≤ 9 := by omega
      have h0 : (0 : Int) ≤ (cc g : Int) := by omega
      clear f3 ci' c0 MO hcl hct
      go_wp2_with (first
        | (at_lookup; refine wp_look1 rfl rfl kInt uCnt zInt M3.out rfl (k := g) rfl (cm_get _ _) ?_)
        | (at_mapUpdate; refine wp_upd rfl rfl kInt uCnt M3.out rfl (k := g) rfl (u := .int .i64 ((cc g : Int) + 1)) (by go_num) ?_; intro w4 hm4 hf4 hs4; go_frame)
        | go_in)
      rw [cm_inc, ← HTK.out] at hm4
      exact ⟨⟨k + 1, _, by omega, by go_num, hm4, F3.out.trans hf4⟩, by simp [intOf]; omega⟩
    · have hltI : ¬ (k : Int) < (l.length : Int) := by omega
      rw [List.take_of_length_le (by omega), HCD.out] at MO
      have FW : Hid (Fr (fun _ => False) w wr) := F1.out.then FR.out (fun i hi e => by have := HBC.out; omega)
      have hwl := FW.out.size
      clear HQ HB1 FR OW HCD H F1 F0
      go_wp2_with fail
      go_loopw [11, 44] (fun v b wi => ∃ j : Nat, j ≤ 3 ∧ b = .int .i64 j ∧ OwnC wi wr.heap.size v (grpK f x j) ∧ (grpK f x j = [] → v = .slice none 0 0) ∧ Fr (fun _ => False) wr wi) (fun _ b _ => 3 - (intOf b).toNat)
      case atStart => exact ⟨0, by omega, rfl, OwnC.nil _ _, fun _ => rfl, Fr.refl _ _⟩
      case round =>
        obtain ⟨j, hj, rfl, owc, hnl, fi⟩ := hrel
        have OC := hid owc
        have NL := hid hnl
        have FI := hid fi
        have hj0 : (0 : Int) ≤ (j : Int) := by omega
        clear owc hnl fi
        generalize u11 = vo at *
        have MI := hid (MO.out.fr FI.out (fun h => h))
        by_cases hj3 : j < 3
        · have hj3I : (j : Int) < 3 := by omega
          have HGK := hid (grpK_succ f x j)
          have hgl := grpK_len f x j
          by_cases h0 : tlK f ((j : Int), x) = 0
          · have HGK2 : Hid (grpK f x (j + 1) = grpK f x j) := by rw [HGK.out, if_pos h0]; simp [Hid]
            have hsm : (cm (fun g => tlK f (g, x)) (j : Int)).isSome = false := by simp [cm, h0]
            go_wp2_with (first
              | (at_lookup; refine wp_look2 rfl rfl kInt uCnt zInt MI.out rfl (k := (j : Int)) rfl (cm_get _ _) hsm ?_)
              | go_in)
            exact ⟨⟨j + 1, by omega, by go_num, by rw [HGK2.out]; exact OC.out, by rw [HGK2.out]; exact NL.out, FI.out⟩, by simp [intOf]; omega⟩
          · have HGK2 : Hid (grpK f x (j + 1) = grpK f x j ++ [((j : Int), (tlK f ((j : Int), x) : Int))]) := by have := HGK.out; rw [if_neg h0] at this; exact this
            have hsm : (cm (fun g => tlK f (g, x)) (j : Int)).isSome = true := by simp [cm, h0]
            clear h0
            go_wp2_with (first
              | (at_lookup; refine wp_look2 rfl rfl kInt uCnt zInt MI.out rfl (k := (j : Int)) rfl (cm_get _ _) hsm ?_)
              | (at_builtin; refine wp_appC rfl rfl (v := vo) rfl (OC.out.fr ((Fr.refl (fun _ => False) _).alloc _) (fun _ _ h => h)) rfl (y := ((j : Int), (tlK f ((j : Int), x) : Int))) (At.new wr #[.int .i64 (j : Int), .int .i64 (tlK f ((j : Int), x) : Int)] _ rfl).c (At.new wr #[.int .i64 (j : Int), .int .i64 (tlK f ((j : Int), x) : Int)] _ rfl).c (by omega) (by have := FI.out.size; simp; omega) ?_; intro tg tc w7 ow7 f7 hg7 hl7; go_frame)
              | go_in)
            refine ⟨⟨j + 1, by omega, by go_num, by rw [HGK2.out]; exact ow7, fun e => absurd e (by rw [HGK2.out]; simp), (FI.out.alloc _).then f7 (fun i hi c => by have := (OC.out.lt c).1; omega)⟩, by simp [intOf]; omega⟩
        · have hj3I : ¬ (j : Int) < 3 := by omega
          have hje : j = 3 := by omega
          subst hje
          go_wp2_with fail
          go_ret2
          rw [HE.out.1, HE.out.2]
          exact ⟨_, rfl, OC.out.base hwl, NL.out, FW.out.trans FI.out⟩

end Go.Proofs.Qxb6500450aGreat
