/- The law's Woven, Split. -/
import Derived.Test.Qxb6500450aRDue
namespace Go.Proofs.Qxb6500450a
open Go Go.RowKit
set_option maxRecDepth 100000
set_option maxHeartbeats 1600000
set_option linter.unusedSimpArgs false
set_option linter.unusedVariables false
variable {bS bX : Nat}

theorem filter_at {p : Int → Bool} {L : List Int} {k : Nat} (hk : k < L.length) (hp : p L[k] = true) : (L.filter p).getD ((L.take k).countP p) 0 = L[k] ∧ (L.take k).countP p < (L.filter p).length := by
  have e : L = L.take k ++ L[k] :: L.drop (k + 1) := by rw [← List.drop_eq_getElem_cons hk, List.take_append_drop]
  have h1 : L.filter p = (L.take k).filter p ++ L[k] :: (L.drop (k + 1)).filter p := by
    conv => lhs; rw [e]
    rw [List.filter_append, List.filter_cons, if_pos hp]
  have h2 : (L.take k).countP p = ((L.take k).filter p).length := List.countP_eq_length_filter
  rw [h1, h2]
  refine ⟨?_, by simp⟩
  rw [List.getD_eq_getElem?_getD, List.getElem?_append_right (Nat.le_refl _)]
  simp
theorem filter_ne {p : Int → Bool} {L : List Int} {x : Int} (hp : p x = false) {i : Nat} (hi : i < (L.filter p).length) : (L.filter p).getD i 0 ≠ x := by
  intro e
  have h : (L.filter p).getD i 0 = (L.filter p)[i] := by simp [List.getD, hi]
  rw [h] at e
  have := (List.mem_filter.1 (List.getElem_mem hi)).2
  rw [e, hp] at this
  cases this
theorem countP_takeS {p : Int → Bool} {L : List Int} {k : Nat} (hk : k < L.length) : (L.take (k + 1)).countP p = (L.take k).countP p + (if p L[k] then 1 else 0) := by
  rw [List.take_succ_eq_append_getElem hk, List.countP_append, List.countP_singleton]

theorem woven_any {w : World} {b1 b2 b3 : Nat} {v1 v2 v3 : Value} {L : List Int} (p : Int → Bool) (hA : OwnI w b1 v1 (L.filter p)) (hB : OwnI w b2 v2 (L.filter fun i => !p i)) (hL : OwnI w b3 v3 L) (hasc : Asc L) (hl : L.length ≤ 9) :
    Calls Try.prog 62 #[v1, v2, v3] w fun e w' => e = .returned (.bool true) ∧ Fr (fun _ => False) w w' := by
  have HA := hid hA
  have HB := hid hB
  have HL := hid hL
  have AS := hid hasc
  have la9 : (L.filter p).length ≤ 9 := Nat.le_trans (List.length_filter_le _ _) hl
  have lb9 : (L.filter fun i => !p i).length ≤ 9 := Nat.le_trans (List.length_filter_le _ _) hl
  obtain ⟨a1, c1, e1⟩ : ∃ a c, v1 = .slice a (L.filter p).length c := by
    rcases hA.empty with ⟨e1, e2⟩ | ⟨g, cap, e1, _⟩
    · exact ⟨none, 0, by rw [e1, e2]; rfl⟩
    · exact ⟨_, cap, e1⟩
  obtain ⟨a2, c2, e2⟩ : ∃ a c, v2 = .slice a (L.filter fun i => !p i).length c := by
    rcases hB.empty with ⟨e1, e2⟩ | ⟨g, cap, e1, _⟩
    · exact ⟨none, 0, by rw [e1, e2]; rfl⟩
    · exact ⟨_, cap, e1⟩
  obtain ⟨a3, c3, e3⟩ : ∃ a c, v3 = .slice a L.length c := by
    rcases hL.empty with ⟨e1, e2⟩ | ⟨g, cap, e1, _⟩
    · exact ⟨none, 0, by rw [e1, e2]; rfl⟩
    · exact ⟨_, cap, e1⟩
  subst e1 e2 e3
  obtain ⟨A, hAe⟩ : ∃ A, A = L.filter p := ⟨_, rfl⟩
  obtain ⟨B, hBe⟩ : ∃ B, B = L.filter fun i => !p i := ⟨_, rfl⟩
  rw [← hAe] at HA la9 ⊢
  rw [← hBe] at HB lb9 ⊢
  have HAE := hid hAe
  have HBE := hid hBe
  have laI : (A.length : Int) ≤ 9 := by omega
  have lbI : (B.length : Int) ≤ 9 := by omega
  have llI : (L.length : Int) ≤ 9 := by omega
  clear hA hB hL hasc hAe hBe
  have HTA : Hid ((L.take L.length).countP p = A.length ∧ (L.take L.length).countP (fun i => !p i) = B.length) := by
    rw [HAE.out, HBE.out, List.take_length]
    exact ⟨List.countP_eq_length_filter, List.countP_eq_length_filter⟩
  go_enter Try.func62, Try.ntmps62
  go_wp2_with fail
  go_loopw [7, 8, 9] (fun x y z wr => ∃ k : Nat, k ≤ L.length ∧ z = .int .i64 k ∧ x = .int .i64 ((L.take k).countP p : Int) ∧ y = .int .i64 ((L.take k).countP (fun i => !p i) : Int) ∧ Fr (fun _ => False) w wr) (fun _ _ z _ => L.length - (intOf z).toNat)
  case atStart => exact ⟨0, by omega, rfl, by simp, by simp, Fr.refl _ _⟩
  case round =>
    obtain ⟨k, hk, rfl, rfl, rfl, fr⟩ := hrel
    have FR := hid fr
    have hk0 : (0 : Int) ≤ (k : Int) := by omega
    clear fr
    by_cases hlt : k < L.length
    · have hltI : (k : Int) < (L.length : Int) := by omega
      rcases HL.out.empty with ⟨_, hn⟩ | ⟨gl, cl, hv, hgb, hgl⟩
      · rw [hn] at hlt; simp at hlt
      cases hv
      have CL := hid ((HL.out.cell rfl hlt).fr FR.out (fun h => h))
      have hget : L.getD k 0 = L[k] := by simp [List.getD, hlt]
      rw [hget] at CL
      have HFA : Hid (p L[k] = true → A.getD ((L.take k).countP p) 0 = L[k] ∧ (L.take k).countP p < A.length) := fun h => by rw [HAE.out]; exact filter_at hlt h
      have HFB : Hid (p L[k] = false → B.getD ((L.take k).countP (fun i => !p i)) 0 = L[k] ∧ (L.take k).countP (fun i => !p i) < B.length) := fun h => by rw [HBE.out]; exact filter_at hlt (by simp [h])
      have HNE : Hid (p L[k] = false → ∀ i, i < A.length → A.getD i 0 ≠ L[k]) := fun h i hi => by rw [HAE.out] at hi ⊢; exact filter_ne h hi
      have HC1 := hid (countP_takeS (p := p) hlt)
      have HC2 := hid (countP_takeS (p := fun i => !p i) hlt)
      have HPR : Hid (k ≠ 0 → ∃ y, At wr gl (k - 1) (.int .i64 y) ∧ y < L[k]) := by
        intro h0
        have hk1 : k - 1 < L.length := by omega
        refine ⟨L.getD (k - 1) 0, (HL.out.cell rfl hk1).fr FR.out (fun h => h), ?_⟩
        have : L.getD (k - 1) 0 = L[k - 1] := by simp [List.getD, hk1]
        rw [this]
        exact List.pairwise_iff_getElem.1 AS.out (k - 1) k hk1 hlt (by omega)
      clear hget
      generalize L[k] = x at *
      obtain ⟨i, hi⟩ : ∃ i, i = (L.take k).countP p := ⟨_, rfl⟩
      obtain ⟨j, hj⟩ : ∃ j, j = (L.take k).countP (fun i => !p i) := ⟨_, rfl⟩
      have hi9 : i ≤ 9 := by rw [hi]; exact Nat.le_trans List.countP_le_length (by rw [List.length_take]; omega)
      have hj9 : j ≤ 9 := by rw [hj]; exact Nat.le_trans List.countP_le_length (by rw [List.length_take]; omega)
      rw [← hi] at HFA HC1 ⊢
      rw [← hj] at HFB HC2 ⊢
      have hiI : (i : Int) ≤ 9 := by omega
      have hjI : (j : Int) ≤ 9 := by omega
      have hi0 : (0 : Int) ≤ (i : Int) := by omega
      have hj0 : (0 : Int) ≤ (j : Int) := by omega
      clear hi hj
      have cl' := CL.out.c
      go_upto_region 5 with fail
      go_cut [29] (fun c wx => c = .bool false ∧ Fr (fun _ => False) wr wx)
      case first =>
        by_cases hk1 : k = 0
        · subst hk1
          go_wp2_with fail
          go_quiet (fail)
          go_wp2_with fail
          go_meet
          case rel => exact ⟨rfl, (Fr.refl _ _).drewN _⟩
        · obtain ⟨y, CY, hyx⟩ := HPR.out hk1
          obtain ⟨m, rfl⟩ : ∃ m, k = m + 1 := ⟨k - 1, by omega⟩
          rw [Nat.add_sub_cancel] at CY
          have hw : IntKind.i64.wrap (((m + 1 : Nat) : Int) - 1) = (m : Int) := by rw [show ((m + 1 : Nat) : Int) - 1 = (m : Int) from by omega]; exact Go.IntWalk.i64_in _ (by omega)
          have hp : decide ((0 : Int) < ((m + 1 : Nat) : Int)) = true := decide_eq_true (by omega)
          have hm0 : (0 : Int) ≤ (m : Int) := by omega
          have hmL : (m : Int) < (L.length : Int) := by omega
          have cy := CY.c
          have hge : decide (x ≤ y) = false := by simp; omega
          clear CY
          go_wp2_with fail
          go_quiet (fail)
          go_wp2_with fail
          go_meet
          case rel => exact ⟨rfl, (Fr.refl _ _).drewN _⟩
      case rest =>
        obtain ⟨rfl, fc⟩ := hcut
        have FC := hid (FR.out.trans fc)
        have cl2 := (CL.out.fr fc (fun h => h)).c
        clear fc cl'
        rcases hpx : p x with _ | _
        · obtain ⟨hbx, hjl⟩ := HFB.out hpx
          have hjlI : (j : Int) < (B.length : Int) := by omega
          rcases HB.out.empty with ⟨_, hn⟩ | ⟨gb, cb, hv, hbb, hbl⟩
          · rw [hn] at hjl; simp at hjl
          cases hv
          have cb' := ((HB.out.cell rfl hjl).fr FC.out (fun h => h)).c
          rw [hbx] at cb'
          have HST : Hid (∀ W : World, Fr (fun _ => False) w W → (∃ n : Nat, n ≤ L.length ∧ (Value.int IntKind.i64 ((k : Int) + 1)) = .int .i64 n ∧ (Value.int IntKind.i64 (i : Int)) = .int .i64 ((L.take n).countP p : Int) ∧ (Value.int IntKind.i64 ((j : Int) + 1)) = .int .i64 ((L.take n).countP (fun i => !p i) : Int) ∧ Fr (fun _ => False) w W)) := by
            intro W hW
            refine ⟨k + 1, by omega, rfl, ?_, ?_, hW⟩
            · rw [HC1.out, hpx]; simp
            · rw [HC2.out, hpx]; simp
          clear hbx
          by_cases hil : i < A.length
          · have hilI : (i : Int) < (A.length : Int) := by omega
            rcases HA.out.empty with ⟨_, hn⟩ | ⟨ga, ca, hv, hab, hal⟩
            · rw [hn] at hil; simp at hil
            cases hv
            have ca' := ((HA.out.cell rfl hil).fr FC.out (fun h => h)).c
            have hne := HNE.out hpx i hil
            generalize A.getD i 0 = y at *
            have hneb : (y == x) = false := by simp [hne]
            clear hne hpx
            go_wp2_with fail
            go_quiet (fail)
            go_wp2_with fail
            go_quiet (fail)
            go_wp2_with fail
            exact ⟨HST.out _ (FC.out.drewN _), by simp [intOf]; omega⟩
          · clear hpx
            go_wp2_with fail
            go_quiet (fail)
            go_wp2_with fail
            go_quiet (fail)
            go_wp2_with fail
            exact ⟨HST.out _ (FC.out.drewN _), by simp [intOf]; omega⟩
        · obtain ⟨hax, hil⟩ := HFA.out hpx
          have hilI : (i : Int) < (A.length : Int) := by omega
          rcases HA.out.empty with ⟨_, hn⟩ | ⟨ga, ca, hv, hab, hal⟩
          · rw [hn] at hil; simp at hil
          cases hv
          have ca' := ((HA.out.cell rfl hil).fr FC.out (fun h => h)).c
          rw [hax] at ca'
          have HST : Hid (∀ W : World, Fr (fun _ => False) w W → (∃ n : Nat, n ≤ L.length ∧ (Value.int IntKind.i64 ((k : Int) + 1)) = .int .i64 n ∧ (Value.int IntKind.i64 ((i : Int) + 1)) = .int .i64 ((L.take n).countP p : Int) ∧ (Value.int IntKind.i64 (j : Int)) = .int .i64 ((L.take n).countP (fun i => !p i) : Int) ∧ Fr (fun _ => False) w W)) := by
            intro W hW
            refine ⟨k + 1, by omega, rfl, ?_, ?_, hW⟩
            · rw [HC1.out, hpx]; simp
            · rw [HC2.out, hpx]; simp
          clear hax hpx
          go_wp2_with fail
          go_quiet (fail)
          go_wp2_with fail
          exact ⟨HST.out _ (FC.out.drewN _), by simp [intOf]; omega⟩
    · have hltI : ¬ (k : Int) < (L.length : Int) := by omega
      obtain rfl : k = L.length := by omega
      have t1 := HTA.out.1
      have t2 := HTA.out.2
      rw [t1, t2]
      go_wp2_with fail
      go_ret
      exact ⟨rfl, FR.out⟩

/-- How Find's lists lie to one another. -/
theorem split_and (f : DocF) {a b : ByteArray} (ha : a.size ≤ 12) (hb : b.size ≤ 12) : findL f 1 a b = (docsOf f a).filter (hwD f b) := by
  rw [findL_ok f ha hb (by omega) (by omega), docsOf_ok f ha, List.filter_filter]
  apply List.filter_congr
  intro i _
  simp [findD, Bool.and_comm]
theorem split_not (f : DocF) {a b : ByteArray} (ha : a.size ≤ 12) (hb : b.size ≤ 12) : findL f 3 a b = (docsOf f a).filter (fun i => !hwD f b i) := by
  rw [findL_ok f ha hb (by omega) (by omega), docsOf_ok f ha, List.filter_filter]
  apply List.filter_congr
  intro i _
  simp [findD, Bool.and_comm]
theorem split_or (f : DocF) {a b : ByteArray} (ha : a.size ≤ 12) (hb : b.size ≤ 12) : docsOf f a = (findL f 2 a b).filter (hwD f a) := by
  rw [findL_ok f ha hb (by omega) (by omega), docsOf_ok f ha, List.filter_filter]
  apply List.filter_congr
  intro i _
  simp [findD]
  intro h
  exact .inl h
theorem split_ton (f : DocF) {a b : ByteArray} (ha : a.size ≤ 12) (hb : b.size ≤ 12) : findL f 3 b a = (findL f 2 a b).filter (fun i => !hwD f a i) := by
  rw [findL_ok f ha hb (by omega) (by omega), findL_ok f hb ha (by omega) (by omega), List.filter_filter]
  apply List.filter_congr
  intro i _
  simp only [findD]
  cases hwD f a i <;> cases hwD f b i <;> rfl
theorem split_dna (f : DocF) {a b : ByteArray} (ha : a.size ≤ 12) (hb : b.size ≤ 12) : findL f 1 b a = findL f 1 a b := by
  rw [findL_ok f ha hb (by omega) (by omega), findL_ok f hb ha (by omega) (by omega)]
  apply List.filter_congr
  intro i _
  simp [findD, Bool.and_comm]
theorem findL_asc (f : DocF) (op : Int) (a b : ByteArray) : Asc (findL f op a b) := by
  unfold findL
  split
  · exact filter_asc _
  · exact .nil
theorem docsOf_asc2 (f : DocF) (x : ByteArray) : Asc (docsOf f x) := by
  unfold docsOf
  split
  · exact .nil
  · exact filter_asc _

theorem splitQ_any {w : World} {F : Nat → Prop} {bQ : Nat} {f : DocF} {r : Int → Nat} (h : QR bX bS w F bQ f r) {a b : ByteArray} (ha : a.size ≤ 12) (hb : b.size ≤ 12) :
    Calls Try.prog 35 #[.pointer (some ⟨bQ, 0, none⟩), .string a, .string b] w fun e w' => e = .returned (.bool true) ∧ Fr (fun _ => False) w w' := by
  have Q0 := hid h
  have HA := hid ha
  have HB := hid hb
  clear h ha hb
  go_enter Try.func35, Try.ntmps35
  go_wp2_with fail
  refine (find_any Q0.out 1 a b).mono ?_
  rintro e w1 ⟨v1, rfl, ow1, _, f1⟩
  have O1 := hid ow1
  have Q1 := hid (Q0.out.frw f1 (fun _ _ h => h))
  have F1 := hid (f1)
  clear ow1 f1 Q0
  go_wp2_with fail
  refine (find_any Q1.out 3 a b).mono ?_
  rintro e w2 ⟨v2, rfl, ow2, _, f2⟩
  have O2 := hid ow2
  have O1 := hid (O1.out.fr f2 (fun _ _ h => h))
  have Q2 := hid (Q1.out.frw f2 (fun _ _ h => h))
  have F2 := hid (F1.out.trans f2)
  clear ow2 f2 Q1 F1
  go_wp2_with fail
  refine (find_any Q2.out 3 b a).mono ?_
  rintro e w3 ⟨v3, rfl, ow3, _, f3⟩
  have O3 := hid ow3
  have O1 := hid (O1.out.fr f3 (fun _ _ h => h))
  have O2 := hid (O2.out.fr f3 (fun _ _ h => h))
  have Q3 := hid (Q2.out.frw f3 (fun _ _ h => h))
  have F3 := hid (F2.out.trans f3)
  clear ow3 f3 Q2 F2
  go_wp2_with fail
  refine (find_any Q3.out 2 a b).mono ?_
  rintro e w4 ⟨v4, rfl, ow4, _, f4⟩
  have O4 := hid ow4
  have O1 := hid (O1.out.fr f4 (fun _ _ h => h))
  have O2 := hid (O2.out.fr f4 (fun _ _ h => h))
  have O3 := hid (O3.out.fr f4 (fun _ _ h => h))
  have Q4 := hid (Q3.out.frw f4 (fun _ _ h => h))
  have F4 := hid (F3.out.trans f4)
  clear ow4 f4 Q3 F3
  go_wp2_with fail
  refine (find_any Q4.out 1 b a).mono ?_
  rintro e w5 ⟨v5, rfl, ow5, _, f5⟩
  have O5 := hid ow5
  have O1 := hid (O1.out.fr f5 (fun _ _ h => h))
  have O2 := hid (O2.out.fr f5 (fun _ _ h => h))
  have O3 := hid (O3.out.fr f5 (fun _ _ h => h))
  have O4 := hid (O4.out.fr f5 (fun _ _ h => h))
  have Q5 := hid (Q4.out.frw f5 (fun _ _ h => h))
  have F5 := hid (F4.out.trans f5)
  clear ow5 f5 Q4 F4
  go_wp2_with fail
  refine (all_any Q5.out HA.out).mono ?_
  rintro e w6 ⟨v6, rfl, ow6, f6⟩
  have O6 := hid ow6
  have O1 := hid (O1.out.fr f6 (fun _ _ h => h))
  have O2 := hid (O2.out.fr f6 (fun _ _ h => h))
  have O3 := hid (O3.out.fr f6 (fun _ _ h => h))
  have O4 := hid (O4.out.fr f6 (fun _ _ h => h))
  have O5 := hid (O5.out.fr f6 (fun _ _ h => h))
  have F6 := hid (F5.out.trans f6)
  clear ow6 f6 Q5 F5
  rw [split_and f HA.out HB.out] at O1
  rw [split_not f HA.out HB.out] at O2
  go_wp2_with fail
  refine (woven_any (hwD f b) O1.out O2.out O6.out (docsOf_asc2 f a) (docsOf_le f a)).mono ?_
  rintro e w7 ⟨rfl, f7⟩
  have O1 := hid (O1.out.fr f7 (fun _ _ h => h))
  have O3 := hid (O3.out.fr f7 (fun _ _ h => h))
  have O4 := hid (O4.out.fr f7 (fun _ _ h => h))
  have O5 := hid (O5.out.fr f7 (fun _ _ h => h))
  have O6 := hid (O6.out.fr f7 (fun _ _ h => h))
  have F7 := hid (F6.out.trans f7)
  clear f7 F6 O2
  rw [split_ton f HA.out HB.out] at O3
  rw [split_or f HA.out HB.out] at O6
  go_wp2_with fail
  refine (woven_any (hwD f a) O6.out O3.out O4.out (findL_asc f 2 a b) (findL_le f 2 a b)).mono ?_
  rintro e w8 ⟨rfl, f8⟩
  have O1 := hid (O1.out.fr f8 (fun _ _ h => h))
  have O5 := hid (O5.out.fr f8 (fun _ _ h => h))
  have F8 := hid (F7.out.trans f8)
  clear f8 F7 O3 O4 O6
  rw [← split_and f HA.out HB.out] at O1
  rw [split_dna f HA.out HB.out] at O5
  obtain ⟨a1, c1, rfl, i1⟩ := O1.out.ints (findL_i64 f 1 a b)
  obtain ⟨a5, c5, rfl, i5⟩ := O5.out.ints (findL_i64 f 1 a b)
  have I1 := hid i1
  have I5 := hid i5
  have hfl : (findL f 1 a b).length ≤ 1000000 := by have := findL_le f 1 a b; omega
  clear i1 i5 O1 O5
  go_wp2_with fail
  refine (ints_any c1 I1.out hfl).mono ?_
  rintro e w9 ⟨rfl, f9⟩
  have I5 := hid (I5.out.fr f9 (fun _ _ _ h => h))
  have F9 := hid (F8.out.trans f9)
  clear f9 F8
  go_wp2_with fail
  refine (ints_any c5 I5.out hfl).mono ?_
  rintro e w10 ⟨rfl, f10⟩
  have F10 := hid (F9.out.trans f10)
  clear f10 F9
  generalize bs (ints (findL f 1 a b)) = s at *
  go_wp2_with fail
  go_ret
  exact ⟨by simp, F10.out⟩

end Go.Proofs.Qxb6500450a
