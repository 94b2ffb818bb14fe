/- Insertion sort: of ints, of strings. -/
import Derived.Test.Qxb6500450aGreatIPut2
namespace Go.Proofs.Qxb6500450aGreat
open Go Go.RowKit
set_option maxRecDepth 100000
set_option maxHeartbeats 1600000
set_option linter.unusedSimpArgs false
set_option linter.unusedVariables false

/-! ### The order of strings -/
theorem bl_irrefl : ∀ x : List UInt8, Op.bytesLess x x = false
  | [] => rfl
  | a :: x => by simp [Op.bytesLess, bl_irrefl x]
theorem bl_trans : ∀ x y z : List UInt8, Op.bytesLess x y = true → Op.bytesLess y z = true → Op.bytesLess x z = true
  | _, [], z, h, _ => by cases ‹List UInt8› <;> simp [Op.bytesLess] at h
  | _, _ :: _, [], _, h => by simp [Op.bytesLess] at h
  | [], _ :: _, _ :: _, _, _ => rfl
  | a :: x, b :: y, c :: z, h1, h2 => by
    simp only [Op.bytesLess, Bool.or_eq_true, decide_eq_true_eq, Bool.and_eq_true, beq_iff_eq] at h1 h2 ⊢
    rcases h1 with h1 | ⟨rfl, h1⟩
    · rcases h2 with h2 | ⟨rfl, _⟩
      · exact .inl (UInt8.lt_trans h1 h2)
      · exact .inl h1
    · rcases h2 with h2 | ⟨rfl, h2⟩
      · exact .inl h2
      · exact .inr ⟨rfl, bl_trans x y z h1 h2⟩
theorem bl_tri : ∀ x y : List UInt8, Op.bytesLess x y = true ∨ x = y ∨ Op.bytesLess y x = true
  | [], [] => .inr (.inl rfl)
  | [], _ :: _ => .inl rfl
  | _ :: _, [] => .inr (.inr rfl)
  | a :: x, b :: y => by
    simp only [Op.bytesLess, Bool.or_eq_true, decide_eq_true_eq, Bool.and_eq_true, beq_iff_eq, List.cons.injEq]
    have h3 : a < b ∨ a = b ∨ b < a := by
      rcases Nat.lt_trichotomy a.toNat b.toNat with h | h | h
      · exact .inl (UInt8.lt_iff_toNat_lt.2 h)
      · exact .inr (.inl (UInt8.toNat_inj.1 h))
      · exact .inr (.inr (UInt8.lt_iff_toNat_lt.2 h))
    rcases h3 with h | rfl | h
    · exact .inl (.inl h)
    · rcases bl_tri x y with h | h | h
      · exact .inl (.inr ⟨rfl, h⟩)
      · exact .inr (.inl ⟨rfl, h⟩)
      · exact .inr (.inr (.inr ⟨rfl, h⟩))
    · exact .inr (.inr (.inl h))
/-- x stands before y. -/
def ltS (x y : ByteArray) : Prop := Op.bytesLess x.toList y.toList = true
theorem toList_inj {x y : ByteArray} (h : x.toList = y.toList) : x = y := by
  rw [ByteArray.toList_eq, ByteArray.toList_eq] at h
  exact WideShapes.bytes_inj h
theorem ltS_irrefl (x : ByteArray) : ¬ ltS x x := by unfold ltS; rw [bl_irrefl]; simp
theorem ltS_trans {x y z : ByteArray} (h1 : ltS x y) (h2 : ltS y z) : ltS x z := bl_trans _ _ _ h1 h2
theorem ltS_tri (x y : ByteArray) : ltS x y ∨ x = y ∨ ltS y x := by
  rcases bl_tri x.toList y.toList with h | h | h
  · exact .inl h
  · exact .inr (.inl (toList_inj h))
  · exact .inr (.inr h)
def leS (x y : ByteArray) : Prop := ¬ ltS y x

section ins
variable {α : Type}
/-- A with c at k, R behind it. -/
def insAt (A : List α) (k : Nat) (c : α) (R : List α) : List α := A.take k ++ c :: (A.drop k ++ R)
theorem jns_len (A : List α) (k : Nat) (c : α) (R : List α) (h : k ≤ A.length) : (insAt A k c R).length = A.length + 1 + R.length := by
  unfold insAt; simp; omega
theorem jns_start (l : List α) (d : α) (i : Nat) (h : i < l.length) : insAt (l.take i) i (l.getD i d) (l.drop (i + 1)) = l := by
  unfold insAt
  have e1 : (l.take i).take i = l.take i := by rw [List.take_take]; simp
  have e2 : (l.take i).drop i = [] := by rw [List.drop_of_length_le]; simp; omega
  rw [e1, e2]
  have e3 : l.getD i d = l[i] := by simp [List.getD, h]
  rw [e3, List.nil_append, List.getElem_cons_drop, List.take_append_drop]
theorem jns_get (A : List α) (d : α) (k : Nat) (c : α) (R : List α) (h : k ≤ A.length) (h0 : 0 < k) : (insAt A k c R).getD (k - 1) d = A.getD (k - 1) d := by
  unfold insAt
  have h1 : k - 1 < (A.take k).length := by simp; omega
  simp only [List.getD]
  rw [List.getElem?_append_left h1, List.getElem?_take]
  rw [if_pos (by omega)]
theorem jns_step (A : List α) (d : α) (k : Nat) (c : α) (R : List α) (h : k ≤ A.length) (h0 : 0 < k) : (insAt A k c R).set k (A.getD (k - 1) d) = insAt A (k - 1) (A.getD (k - 1) d) R := by
  obtain ⟨j, rfl⟩ : ∃ j, k = j + 1 := ⟨k - 1, by omega⟩
  have hj : j < A.length := by omega
  simp only [Nat.add_sub_cancel]
  have e : A.getD j d = A[j] := by simp [List.getD, hj]
  unfold insAt
  have hl : (A.take (j + 1)).length = j + 1 := by simp; omega
  rw [List.set_append_right _ _ (by omega), hl, Nat.sub_self, List.set_cons_zero, e]
  have g1 : A.take (j + 1) = A.take j ++ [A[j]] := List.take_succ_eq_append_getElem hj
  have g2 : A.drop j = A[j] :: A.drop (j + 1) := List.drop_eq_getElem_cons hj
  rw [g1, g2, List.append_assoc]
  rfl
theorem jns_done (A : List α) (k : Nat) (c x : α) (R : List α) (h : k ≤ A.length) : (insAt A k c R).set k x = insAt A k x R := by
  unfold insAt
  have hl : (A.take k).length = k := by simp; omega
  rw [List.set_append_right _ _ (by omega), hl, Nat.sub_self, List.set_cons_zero]
theorem jns_perm (A : List α) (k : Nat) (x : α) (R : List α) : (insAt A k x R).Perm (A ++ x :: R) := by
  unfold insAt
  have h1 : (A.take k ++ x :: (A.drop k ++ R)).Perm (x :: (A.take k ++ (A.drop k ++ R))) := List.perm_middle
  have h2 : (A ++ x :: R).Perm (x :: (A ++ R)) := List.perm_middle
  rw [← List.append_assoc, List.take_append_drop] at h1
  exact h1.trans h2.symm
theorem jns_take (A : List α) (k : Nat) (x : α) (R : List α) (h : k ≤ A.length) : (insAt A k x R).take (A.length + 1) = A.take k ++ x :: A.drop k := by
  unfold insAt
  have : A.take k ++ x :: (A.drop k ++ R) = (A.take k ++ x :: A.drop k) ++ R := by simp
  rw [this, List.take_append_of_le_length (by simp; omega), List.take_of_length_le (by simp; omega)]
end ins

theorem gt_true {x y : ByteArray} (h : ltS x y) : (!(Op.bytesLess y.toList x.toList || y.toList == x.toList)) = true := by
  have h1 : Op.bytesLess y.toList x.toList = false := by
    rcases hc : Op.bytesLess y.toList x.toList with _ | _
    · rfl
    · exact absurd (ltS_trans h hc) (ltS_irrefl x)
  have h2 : (y.toList == x.toList) = false := beq_eq_false_iff_ne.2 fun e => by
    unfold ltS at h
    rw [e, bl_irrefl] at h
    cases h
  rw [h1, h2]; rfl
theorem gt_false {x y : ByteArray} (h : ¬ ltS x y) : (!(Op.bytesLess y.toList x.toList || y.toList == x.toList)) = false := by
  rcases ltS_tri x y with c | c | c
  · exact absurd c h
  · subst c; simp
  · unfold ltS at c; rw [c]; rfl
theorem leI_refl (a : Int) : a ≤ a := Int.le_refl a
theorem leI_of {a b : Int} (h : ¬ a > b) : a ≤ b := by omega
theorem leS_refl (x : ByteArray) : leS x x := ltS_irrefl x
theorem leS_trans {x y z : ByteArray} (h1 : leS x y) (h2 : leS y z) : leS x z := by
  intro h
  rcases ltS_tri x y with c | c | c
  · exact h2 (ltS_trans h c)
  · subst c; exact h2 h
  · exact h1 c
theorem leS_of {x y : ByteArray} (h : ltS x y) : leS x y := fun c => ltS_irrefl _ (ltS_trans h c)

theorem sorted_ins_sortI {A : List Int} {k : Nat} {x : Int} (h : A.Pairwise (· ≤ ·)) (h1 : ∀ a ∈ A.drop k, a > x) (h2 : k = 0 ∨ ¬ (A.getD (k - 1) 0) > x) (hk : k ≤ A.length) : (A.take k ++ x :: A.drop k).Pairwise (· ≤ ·) := by
  rw [List.pairwise_append]
  refine ⟨h.sublist (List.take_sublist _ _), ?_, ?_⟩
  · rw [List.pairwise_cons]
    exact ⟨fun a ha => Int.le_of_lt (h1 a ha), h.sublist (List.drop_sublist _ _)⟩
  · intro a ha b hb
    have hax : (· ≤ ·) a x := by
      rcases h2 with h0 | h2
      · subst h0; simp at ha
      · have hlast : (· ≤ ·) a (A.getD (k - 1) 0) := by
          obtain ⟨i, hi, e⟩ := List.mem_iff_getElem.1 ha
          have hi' : i < k := by simp at hi; omega
          have ei : a = A[i]'(by omega) := by rw [← e]; simp
          have eg : A.getD (k - 1) 0 = A[k - 1]'(by omega) := by simp [List.getD, show k - 1 < A.length by omega]
          rw [ei, eg]
          by_cases c : i = k - 1
          · subst c; exact leI_refl _
          · exact List.pairwise_iff_getElem.1 h i (k - 1) (by omega) (by omega) (by omega)
        exact Int.le_trans hlast (leI_of h2)
    rcases List.mem_cons.1 hb with rfl | hb
    · exact hax
    · exact Int.le_trans hax (Int.le_of_lt (h1 b hb))

theorem sortI_any {w : World} {base : Nat} {v : Value} {l : List Int} (h : OwnI w base v l) (hl : l.length ≤ 1000) :
    Calls Tryz.prog 83 #[v] w fun e w' => e = .returned (.tuple #[]) ∧ (∃ l', OwnI w' base v l' ∧ l'.Perm l ∧ l'.Pairwise (· ≤ ·)) ∧ Fr (fun i => v.ownBlock = some i) w w' := by
  rcases h.empty with ⟨rfl, rfl⟩ | ⟨g, cap, rfl, hb, hg⟩
  · go_enter Tryz.func83, Tryz.ntmps83
    go_wp2_with fail
    refine wp_loop_rounds 1 ?_
    rw [rounds_succ]
    go_wp2_with fail
    go_end0
    exact ⟨rfl, ⟨[], OwnI.nil _ _, .refl _, .nil⟩, Fr.refl _ _⟩
  · have H := hid h
    obtain ⟨n, hn⟩ : ∃ n, n = l.length := ⟨_, rfl⟩
    have HN := hid hn
    rw [← hn] at hl ⊢
    rw [← hn] at H
    clear h hn
    have hnI : (n : Int) ≤ 1000 := by omega
    go_enter Tryz.func83, Tryz.ntmps83
    go_wp2_with fail
    go_loopw [2] (fun a wr => ∃ (i : Nat) (l' : List Int), 1 ≤ i ∧ a = .int .i64 i ∧ OwnI wr base (.slice (some ⟨g, 0, none⟩) n cap) l' ∧ l'.Perm l ∧ (l'.take i).Pairwise (· ≤ ·) ∧ i ≤ n + 1 ∧ Fr (fun k => k = g) w wr) (fun a _ => n + 1 - (intOf a).toNat)
    case atStart => exact ⟨1, l, by omega, rfl, H.out, .refl _, by cases l <;> simp, by omega, Fr.refl _ _⟩
    case round =>
      clear H
      obtain ⟨i, l', hi1, rfl, ow, pm, so, hi2, fr⟩ := hrel
      have OW := hid ow
      have PM := hid pm
      have SO := hid so
      have FR := hid fr
      have hll : l'.length = n := by rw [pm.length_eq]; exact HN.out.symm
      have HLL := hid hll
      have hi0 : (0 : Int) ≤ (i : Int) := by omega
      have hib : (i : Int) ≤ 2000 := by omega
      clear ow pm so fr
      by_cases hlt : i < n
      · have hltI : (i : Int) < (n : Int) := by omega
        have hil : i < l'.length := by omega
        have cx := (OW.out.cell hll.symm hil).c
        clear hll
        obtain ⟨A, hA⟩ : ∃ A, A = l'.take i := ⟨_, rfl⟩
        obtain ⟨R, hR⟩ : ∃ R, R = l'.drop (i + 1) := ⟨_, rfl⟩
        have HAL : Hid (A.length = i) := by unfold Hid; rw [hA]; simp; omega
        have HST : Hid (insAt A i (l'.getD i 0) R = l') := by unfold Hid; rw [hA, hR]; exact jns_start l' 0 i hil
        rw [← hA] at SO
        have HPM : Hid ((A ++ (l'.getD i 0) :: R).Perm l) := by
          have e : A ++ (l'.getD i 0) :: R = l' := by
            have := HST.out
            unfold insAt at this
            have e1 : A.take i = A := List.take_of_length_le (by have := HAL.out; omega)
            have e2 : A.drop i = [] := List.drop_of_length_le (by have := HAL.out; omega)
            rw [e1, e2] at this
            simpa using this
          rw [e]; exact PM.out
        clear hA hR
        generalize l'.getD i 0 = x at *
        go_upto_region 4 with fail
        go_wp2_with fail
        go_loopw [4] (fun a wi => ∃ (k : Nat) (c : Int), k ≤ i ∧ a = .int .i64 k ∧ OwnI wi base (.slice (some ⟨g, 0, none⟩) n cap) (insAt A k c R) ∧ (∀ a ∈ A.drop k, a > x) ∧ Fr (fun j => j = g) w wi) (fun a _ => (intOf a).toNat)
        case atStart => exact ⟨i, x, by omega, rfl, by rw [HST.out]; exact OW.out, by rw [List.drop_of_length_le (by have := HAL.out; omega)]; simp, FR.out⟩
        case round =>
          clear OW FR cx
          obtain ⟨k, c, hki, rfl, ow, hgt, fr⟩ := hrel
          have OI := hid ow
          have HGT := hid hgt
          have FI := hid fr
          clear ow hgt fr
          have hk0 : (0 : Int) ≤ (k : Int) := by omega
          have hkb : (k : Int) ≤ 2000 := by omega
          have hkA : k ≤ A.length := by have := HAL.out; omega
          have HIL : Hid ((insAt A k c R).length = n) := by
            have e1 := jns_len A k c R hkA
            have e2 := congrArg List.length HST.out
            have e3 := jns_len A i x R (by have := HAL.out; omega)
            have := HLL.out
            unfold Hid; omega
          have hkn : (k : Int) < (n : Int) := by omega
          by_cases hk : k = 0
          · subst hk
            have x0 := (OI.out.cell HIL.out.symm (j := 0) (by have := HIL.out; omega)).c
            have z0 := (OI.out.cell HIL.out.symm (j := 0) (by have := HIL.out; omega)).f
            go_wp2_with fail
            refine ⟨⟨i + 1, insAt A 0 x R, by omega, by go_num, ?_, (jns_perm A 0 x R).trans HPM.out, ?_, by omega, ?_⟩, by simp [intOf]; omega⟩
            · have := OI.out.set HIL.out.symm 0 x
              rwa [jns_done A 0 c x R (by omega)] at this
            · have e := jns_take A 0 x R (by omega)
              have hl := HAL.out
              rw [hl] at e
              rw [e]
              exact sorted_ins_sortI SO.out HGT.out (.inl rfl) (by omega)
            · exact FI.out.setCell (p := ⟨g, 0, none⟩) (fun _ => rfl) _
          · have hkp : (0 : Int) < (k : Int) := by omega
            have hk1 : (0 : Int) ≤ (k : Int) - 1 := by omega
            have hk1n : (k : Int) - 1 < (n : Int) := by omega
            have ek : ((k : Int) - 1).toNat = k - 1 := by omega
            have y1 := (OI.out.cell HIL.out.symm (j := k - 1) (by have := HIL.out; omega)).c
            rw [jns_get A 0 k c R hkA (by omega)] at y1
            have x1 := (OI.out.cell HIL.out.symm (j := k) (by have := HIL.out; omega)).c
            have z1 := (OI.out.cell HIL.out.symm (j := k) (by have := HIL.out; omega)).f
            have HY : Hid (A.getD (k - 1) 0 ∈ A.drop (k - 1) ∧ A.drop (k - 1) = A.getD (k - 1) 0 :: A.drop k) := by
              have hj : k - 1 < A.length := by omega
              have e1 : A.drop (k - 1) = A[k - 1] :: A.drop (k - 1 + 1) := List.drop_eq_getElem_cons hj
              have e2 : A.getD (k - 1) 0 = A[k - 1] := by simp [List.getD, hj]
              have e3 : k - 1 + 1 = k := by omega
              rw [e3] at e1
              exact ⟨by rw [e1, e2]; simp, by rw [e1, e2]⟩
            have HSP := hid (jns_step A 0 k c R hkA (by omega))
            have HY2 : Hid (∀ (h : ¬ (A.getD (k - 1) 0) > x), (A.take k ++ x :: A.drop k).Pairwise (· ≤ ·)) := fun h => sorted_ins_sortI SO.out HGT.out (.inr h) hkA
            generalize A.getD (k - 1) 0 = y at *
            by_cases hc : y > x
            · have hcb : y > x := hc
              go_wp2_with fail
              refine ⟨⟨k - 1, y, by omega, by go_num, ?_, ?_, ?_⟩, by simp [intOf]; omega⟩
              · have := OI.out.set HIL.out.symm k y
                rwa [HSP.out] at this
              · rw [HY.out.2]
                intro a ha
                rcases List.mem_cons.1 ha with rfl | ha
                · exact hc
                · exact HGT.out a ha
              · exact FI.out.setCell (p := ⟨g, k, none⟩) (fun _ => rfl) _
            · have hcb : ¬ y > x := hc
              go_wp2_with fail
              refine ⟨⟨i + 1, insAt A k x R, by omega, by go_num, ?_, (jns_perm A k x R).trans HPM.out, ?_, by omega, ?_⟩, by simp [intOf]; omega⟩
              · have := OI.out.set HIL.out.symm k x
                rwa [jns_done A k c x R hkA] at this
              · have e := jns_take A k x R hkA
                have hl := HAL.out
                rw [hl] at e
                rw [e]
                exact HY2.out hc
              · exact FI.out.setCell (p := ⟨g, k, none⟩) (fun _ => rfl) _
      · have hgeI : ¬ (i : Int) < (n : Int) := by omega
        go_wp2_with fail
        go_end0
        refine ⟨rfl, ⟨l', OW.out, PM.out, ?_⟩, FR.out.mono (fun j _ e => by rw [e]; rfl)⟩
        have := SO.out
        rwa [List.take_of_length_le (by omega)] at this

theorem sorted_ins_sortS {A : List ByteArray} {k : Nat} {x : ByteArray} (h : A.Pairwise leS) (h1 : ∀ a ∈ A.drop k, ltS x a) (h2 : k = 0 ∨ ¬ ltS x (A.getD (k - 1) ⟨#[]⟩)) (hk : k ≤ A.length) : (A.take k ++ x :: A.drop k).Pairwise leS := by
  rw [List.pairwise_append]
  refine ⟨h.sublist (List.take_sublist _ _), ?_, ?_⟩
  · rw [List.pairwise_cons]
    exact ⟨fun a ha => leS_of (h1 a ha), h.sublist (List.drop_sublist _ _)⟩
  · intro a ha b hb
    have hax : leS a x := by
      rcases h2 with h0 | h2
      · subst h0; simp at ha
      · have hlast : leS a (A.getD (k - 1) ⟨#[]⟩) := by
          obtain ⟨i, hi, e⟩ := List.mem_iff_getElem.1 ha
          have hi' : i < k := by simp at hi; omega
          have ei : a = A[i]'(by omega) := by rw [← e]; simp
          have eg : A.getD (k - 1) ⟨#[]⟩ = A[k - 1]'(by omega) := by simp [List.getD, show k - 1 < A.length by omega]
          rw [ei, eg]
          by_cases c : i = k - 1
          · subst c; exact leS_refl _
          · exact List.pairwise_iff_getElem.1 h i (k - 1) (by omega) (by omega) (by omega)
        exact leS_trans hlast ((fun h => h) h2)
    rcases List.mem_cons.1 hb with rfl | hb
    · exact hax
    · exact leS_trans hax (leS_of (h1 b hb))

theorem sortS_any {w : World} {base : Nat} {v : Value} {l : List ByteArray} (h : OwnS w base v l) (hl : l.length ≤ 1000) :
    Calls Tryz.prog 84 #[v] w fun e w' => e = .returned (.tuple #[]) ∧ (∃ l', OwnS w' base v l' ∧ l'.Perm l ∧ l'.Pairwise leS) ∧ Fr (fun i => v.ownBlock = some i) w w' := by
  rcases h.empty with ⟨rfl, rfl⟩ | ⟨g, cap, rfl, hb, hg⟩
  · go_enter Tryz.func84, Tryz.ntmps84
    go_wp2_with fail
    refine wp_loop_rounds 1 ?_
    rw [rounds_succ]
    go_wp2_with fail
    go_end0
    exact ⟨rfl, ⟨[], OwnS.nil _ _, .refl _, .nil⟩, Fr.refl _ _⟩
  · have H := hid h
    obtain ⟨n, hn⟩ : ∃ n, n = l.length := ⟨_, rfl⟩
    have HN := hid hn
    rw [← hn] at hl ⊢
    rw [← hn] at H
    clear h hn
    have hnI : (n : Int) ≤ 1000 := by omega
    go_enter Tryz.func84, Tryz.ntmps84
    go_wp2_with fail
    go_loopw [2] (fun a wr => ∃ (i : Nat) (l' : List ByteArray), 1 ≤ i ∧ a = .int .i64 i ∧ OwnS wr base (.slice (some ⟨g, 0, none⟩) n cap) l' ∧ l'.Perm l ∧ (l'.take i).Pairwise leS ∧ i ≤ n + 1 ∧ Fr (fun k => k = g) w wr) (fun a _ => n + 1 - (intOf a).toNat)
    case atStart => exact ⟨1, l, by omega, rfl, H.out, .refl _, by cases l <;> simp, by omega, Fr.refl _ _⟩
    case round =>
      clear H
      obtain ⟨i, l', hi1, rfl, ow, pm, so, hi2, fr⟩ := hrel
      have OW := hid ow
      have PM := hid pm
      have SO := hid so
      have FR := hid fr
      have hll : l'.length = n := by rw [pm.length_eq]; exact HN.out.symm
      have HLL := hid hll
      have hi0 : (0 : Int) ≤ (i : Int) := by omega
      have hib : (i : Int) ≤ 2000 := by omega
      clear ow pm so fr
      by_cases hlt : i < n
      · have hltI : (i : Int) < (n : Int) := by omega
        have hil : i < l'.length := by omega
        have cx := (OW.out.cell hll.symm hil).c
        clear hll
        obtain ⟨A, hA⟩ : ∃ A, A = l'.take i := ⟨_, rfl⟩
        obtain ⟨R, hR⟩ : ∃ R, R = l'.drop (i + 1) := ⟨_, rfl⟩
        have HAL : Hid (A.length = i) := by unfold Hid; rw [hA]; simp; omega
        have HST : Hid (insAt A i (l'.getD i ⟨#[]⟩) R = l') := by unfold Hid; rw [hA, hR]; exact jns_start l' ⟨#[]⟩ i hil
        rw [← hA] at SO
        have HPM : Hid ((A ++ (l'.getD i ⟨#[]⟩) :: R).Perm l) := by
          have e : A ++ (l'.getD i ⟨#[]⟩) :: R = l' := by
            have := HST.out
            unfold insAt at this
            have e1 : A.take i = A := List.take_of_length_le (by have := HAL.out; omega)
            have e2 : A.drop i = [] := List.drop_of_length_le (by have := HAL.out; omega)
            rw [e1, e2] at this
            simpa using this
          rw [e]; exact PM.out
        clear hA hR
        generalize l'.getD i ⟨#[]⟩ = x at *
        go_upto_region 4 with fail
        go_wp2_with fail
        go_loopw [4] (fun a wi => ∃ (k : Nat) (c : ByteArray), k ≤ i ∧ a = .int .i64 k ∧ OwnS wi base (.slice (some ⟨g, 0, none⟩) n cap) (insAt A k c R) ∧ (∀ a ∈ A.drop k, ltS x a) ∧ Fr (fun j => j = g) w wi) (fun a _ => (intOf a).toNat)
        case atStart => exact ⟨i, x, by omega, rfl, by rw [HST.out]; exact OW.out, by rw [List.drop_of_length_le (by have := HAL.out; omega)]; simp, FR.out⟩
        case round =>
          clear OW FR cx
          obtain ⟨k, c, hki, rfl, ow, hgt, fr⟩ := hrel
          have OI := hid ow
          have HGT := hid hgt
          have FI := hid fr
          clear ow hgt fr
          have hk0 : (0 : Int) ≤ (k : Int) := by omega
          have hkb : (k : Int) ≤ 2000 := by omega
          have hkA : k ≤ A.length := by have := HAL.out; omega
          have HIL : Hid ((insAt A k c R).length = n) := by
            have e1 := jns_len A k c R hkA
            have e2 := congrArg List.length HST.out
            have e3 := jns_len A i x R (by have := HAL.out; omega)
            have := HLL.out
            unfold Hid; omega
          have hkn : (k : Int) < (n : Int) := by omega
          by_cases hk : k = 0
          · subst hk
            have x0 := (OI.out.cell HIL.out.symm (j := 0) (by have := HIL.out; omega)).c
            have z0 := (OI.out.cell HIL.out.symm (j := 0) (by have := HIL.out; omega)).f
            go_wp2_with fail
            refine ⟨⟨i + 1, insAt A 0 x R, by omega, by go_num, ?_, (jns_perm A 0 x R).trans HPM.out, ?_, by omega, ?_⟩, by simp [intOf]; omega⟩
            · have := OI.out.set HIL.out.symm 0 x
              rwa [jns_done A 0 c x R (by omega)] at this
            · have e := jns_take A 0 x R (by omega)
              have hl := HAL.out
              rw [hl] at e
              rw [e]
              exact sorted_ins_sortS SO.out HGT.out (.inl rfl) (by omega)
            · exact FI.out.setCell (p := ⟨g, 0, none⟩) (fun _ => rfl) _
          · have hkp : (0 : Int) < (k : Int) := by omega
            have hk1 : (0 : Int) ≤ (k : Int) - 1 := by omega
            have hk1n : (k : Int) - 1 < (n : Int) := by omega
            have ek : ((k : Int) - 1).toNat = k - 1 := by omega
            have y1 := (OI.out.cell HIL.out.symm (j := k - 1) (by have := HIL.out; omega)).c
            rw [jns_get A ⟨#[]⟩ k c R hkA (by omega)] at y1
            have x1 := (OI.out.cell HIL.out.symm (j := k) (by have := HIL.out; omega)).c
            have z1 := (OI.out.cell HIL.out.symm (j := k) (by have := HIL.out; omega)).f
            have HY : Hid (A.getD (k - 1) ⟨#[]⟩ ∈ A.drop (k - 1) ∧ A.drop (k - 1) = A.getD (k - 1) ⟨#[]⟩ :: A.drop k) := by
              have hj : k - 1 < A.length := by omega
              have e1 : A.drop (k - 1) = A[k - 1] :: A.drop (k - 1 + 1) := List.drop_eq_getElem_cons hj
              have e2 : A.getD (k - 1) ⟨#[]⟩ = A[k - 1] := by simp [List.getD, hj]
              have e3 : k - 1 + 1 = k := by omega
              rw [e3] at e1
              exact ⟨by rw [e1, e2]; simp, by rw [e1, e2]⟩
            have HSP := hid (jns_step A ⟨#[]⟩ k c R hkA (by omega))
            have HY2 : Hid (∀ (h : ¬ ltS x (A.getD (k - 1) ⟨#[]⟩)), (A.take k ++ x :: A.drop k).Pairwise leS) := fun h => sorted_ins_sortS SO.out HGT.out (.inr h) hkA
            generalize A.getD (k - 1) ⟨#[]⟩ = y at *
            by_cases hc : ltS x y
            · have hcb : (!(Op.bytesLess y.toList x.toList || y.toList == x.toList)) = true := gt_true hc
              go_wp2_with fail
              refine ⟨⟨k - 1, y, by omega, by go_num, ?_, ?_, ?_⟩, by simp [intOf]; omega⟩
              · have := OI.out.set HIL.out.symm k y
                rwa [HSP.out] at this
              · rw [HY.out.2]
                intro a ha
                rcases List.mem_cons.1 ha with rfl | ha
                · exact hc
                · exact HGT.out a ha
              · exact FI.out.setCell (p := ⟨g, k, none⟩) (fun _ => rfl) _
            · have hcb : (!(Op.bytesLess y.toList x.toList || y.toList == x.toList)) = false := gt_false hc
              go_wp2_with fail
              refine ⟨⟨i + 1, insAt A k x R, by omega, by go_num, ?_, (jns_perm A k x R).trans HPM.out, ?_, by omega, ?_⟩, by simp [intOf]; omega⟩
              · have := OI.out.set HIL.out.symm k x
                rwa [jns_done A k c x R hkA] at this
              · have e := jns_take A k x R hkA
                have hl := HAL.out
                rw [hl] at e
                rw [e]
                exact HY2.out hc
              · exact FI.out.setCell (p := ⟨g, k, none⟩) (fun _ => rfl) _
      · have hgeI : ¬ (i : Int) < (n : Int) := by omega
        go_wp2_with fail
        go_end0
        refine ⟨rfl, ⟨l', OW.out, PM.out, ?_⟩, FR.out.mono (fun j _ e => by rw [e]; rfl)⟩
        have := SO.out
        rwa [List.take_of_length_le (by omega)] at this

end Go.Proofs.Qxb6500450aGreat
