/- The law's GroupSum. -/
import Derived.Test.Qxb6500450aRWoven
namespace Go.Proofs.Qxb6500450a
open Go Go.RowKit
set_option maxRecDepth 100000
set_option maxHeartbeats 8000000
set_option linter.unusedSimpArgs false
set_option linter.unusedVariables false
variable {bS bX : Nat}

def sumC : List C2 → Int
  | [] => 0
  | d :: l => d.2 + sumC l
theorem sumC_snoc : ∀ (l : List C2) (d : C2), sumC (l ++ [d]) = sumC l + d.2
  | [], d => by simp [sumC]
  | y :: l, d => by simp [sumC, sumC_snoc l d]; omega
theorem grpK_sum (f : DocF) (x : ByteArray) (k : Nat) : sumC (grpK f x (k + 1)) = sumC (grpK f x k) + (tlK f ((k : Int), x) : Int) := by
  rw [grpK_succ]
  by_cases h : tlK f ((k : Int), x) = 0
  · rw [if_pos h]; simp [h]
  · rw [if_neg h, sumC_snoc]
theorem countP_three (p : Int → Bool) (q : Nat → Int → Bool) : ∀ l : List Int, (∀ i ∈ l, (p i).toNat = (q 0 i).toNat + (q 1 i).toNat + (q 2 i).toNat) → l.countP p = l.countP (q 0) + l.countP (q 1) + l.countP (q 2)
  | [], _ => rfl
  | a :: l, h => by
    have h1 := h a (by simp)
    have h2 := countP_three p q l (fun i hi => h i (by simp [hi]))
    rw [List.countP_cons, List.countP_cons, List.countP_cons, List.countP_cons, h2]
    have e : ∀ b : Bool, (if b = true then 1 else 0) = b.toNat := fun b => by cases b <;> rfl
    simp only [e]
    omega
theorem grp_total {f : DocF} (ok : OkF f) {x : ByteArray} (hx : x.size ≤ 12) : sumC (grpK f x 3) = ((docsOf f x).length : Int) := by
  rw [grpK_sum, grpK_sum, grpK_sum]
  have h0 : sumC (grpK f x 0) = 0 := rfl
  have hd : (docsOf f x).length = tlK f (((0 : Nat) : Int), x) + tlK f (((1 : Nat) : Int), x) + tlK f (((2 : Nat) : Int), x) := by
    rw [docsOf_ok f hx, ← List.countP_eq_length_filter]
    refine countP_three (hwD f x) (fun g i => has f (g : Int) i && hwD f x i) nine ?_
    intro i _
    obtain e | ⟨⟨g, t⟩, e⟩ := opt (f i)
    · simp [hwD_none e]
    · have hr := (ok.rng i _ e)
      have h1 := hr.2.2.1
      have h2 := hr.2.2.2.1
      simp only at h1 h2
      rw [has_of e, has_of e, has_of e]
      have : g = 0 ∨ g = 1 ∨ g = 2 := by omega
      rcases this with rfl | rfl | rfl <;> cases hwD f x i <;> rfl
  rw [h0, hd]
  omega
theorem grpK_at {f : DocF} {x : ByteArray} {k : Nat} {i : Nat} (hi : i < (grpK f x k).length) : ∃ j : Nat, j < k ∧ (grpK f x k).getD i (0, 0) = ((j : Int), (tlK f ((j : Int), x) : Int)) ∧ tlK f ((j : Int), x) ≠ 0 := grpK_mem (getD_memC hi)
theorem grpK_asc (f : DocF) (x : ByteArray) (k : Nat) : (grpK f x k).Pairwise (fun a b => a.1 < b.1) := by
  induction k with
  | zero => exact .nil
  | succ k ih =>
    rw [grpK_succ, List.pairwise_append]
    refine ⟨ih, by split <;> simp, ?_⟩
    intro a ha b hb
    obtain ⟨j, hj, rfl, _⟩ := grpK_mem ha
    split at hb
    · simp at hb
    · simp at hb
      subst hb
      simp only
      omega

theorem groupSum_any {w : World} {F : Nat → Prop} {bQ : Nat} {f : DocF} {r : Int → Nat} (h : QR bX bS w F bQ f r) {x : ByteArray} (hx : x.size ≤ 12) :
    Calls Try.prog 36 #[bwV bX, .pointer (some ⟨bQ, 0, none⟩), .string x] w fun e w' => e = .returned (.bool true) ∧ Fr (fun _ => False) w w' := by
  have OK := hid h.ok
  have HX := hid hx
  have FA := hid ((Fr.refl (fun _ => False) w).alloc (.cells #[.pointer (some ⟨bX, 0, none⟩)] 27))
  have A0 : Hid (At (w.alloc (.cells #[.pointer (some ⟨bX, 0, none⟩)] 27)) w.heap.size 0 (.pointer (some ⟨bX, 0, none⟩))) := At.new w _ _ rfl
  have Q0 := hid (h.frw FA.out (fun _ _ h => h))
  have HGE : Hid (grpsL f x = grpK f x 3) := by unfold Hid grpsL; rw [if_neg (by omega)]
  clear h hx
  simp only [bwV]
  go_enter Try.func36, Try.ntmps36
  go_upto_region 1 with fail
  generalize w.alloc (.cells #[.pointer (some ⟨bX, 0, none⟩)] 27) = w0 at *
  generalize w.heap.size = pb at *
  have HG := groups_any Q0.out x
  rw [HGE.out] at HG
  have HG := hid HG
  go_wp2_with fail
  refine HG.out.mono ?_
  rintro e w1 ⟨v1, rfl, o1, _, f1⟩
  have O1 := hid o1
  have F1 := hid (FA.out.trans f1)
  have A1 := hid (A0.out.fr f1 (fun h => h))
  have Q1 := hid (Q0.out.frw f1 (fun _ _ h => h))
  clear o1 f1 HG A0 Q0 FA
  have c0 := A1.out.c
  have HH := holdersB_any Q1.out.xr x
  simp only [bwV] at HH
  have HH := hid HH
  go_wp2_with fail
  refine HH.out.mono ?_
  rintro e w2 ⟨v2, rfl, o2, f2⟩
  have O1 := hid (O1.out.fr f2 (fun _ _ h => h))
  have O2 := hid o2
  have F2 := hid (F1.out.trans f2)
  have A2 := hid (A1.out.fr f2 (fun h => h))
  have Q2 := hid (Q1.out.frw f2 (fun _ _ h => h))
  clear o2 f2 c0 HH F1 A1 Q1
  have HSUM := hid (grp_total OK.out HX.out)
  have HCG := hid (cG_docs OK.out HX.out)
  have hdl := docsOf_le f x
  have hgl := grpK_len f x 3
  obtain ⟨H, hH⟩ : ∃ H, H = docsOf f x := ⟨_, rfl⟩
  have HHE := hid hH
  rw [← hH] at O2 HSUM HCG hdl
  have HGA : Hid (∀ i, i < (grpK f x 3).length → ∃ j : Nat, (grpK f x 3).getD i (0, 0) = ((j : Int), (cG f H (j : Int) : Int)) ∧ 1 ≤ cG f H (j : Int) ∧ j ≤ 2) := by
    intro i hi
    obtain ⟨j, hj, e, hne⟩ := grpK_at hi
    have e2 : cG f H (j : Int) = tlK f ((j : Int), x) := by rw [HCG.out]
    exact ⟨j, by rw [e, e2], by omega, by omega⟩
  have HAS : Hid (∀ i, i + 1 < (grpK f x 3).length → ((grpK f x 3).getD i (0, 0)).1 < ((grpK f x 3).getD (i + 1) (0, 0)).1) := by
    intro i hi
    have := List.pairwise_iff_getElem.1 (grpK_asc f x 3) i (i + 1) (by omega) hi (by omega)
    simpa [List.getD, hi, Nat.lt_of_succ_lt hi] using this
  clear hH
  obtain ⟨G, hG⟩ : ∃ G, G = grpK f x 3 := ⟨_, rfl⟩
  rw [← hG] at O1 HSUM HGA HAS hgl
  clear hG HCG
  obtain ⟨a1, c1, e1⟩ := O1.out.form
  obtain ⟨a2, c2, e2⟩ : ∃ a c, v2 = .slice a H.length c := by
    rcases O2.out.empty with ⟨e1, e2⟩ | ⟨g, cap, e1, _⟩
    · exact ⟨none, 0, by rw [e1, e2]; rfl⟩
    · exact ⟨_, cap, e1⟩
  subst e1 e2
  have hgI : (G.length : Int) ≤ 3 := by omega
  have hhI : (H.length : Int) ≤ 9 := by omega
  go_wp2_with fail
  go_loopw [10, 11] (fun s a wr => ∃ i : Nat, i ≤ G.length ∧ a = .int .i64 i ∧ s = .int .i64 (sumC (G.take i)) ∧ 0 ≤ sumC (G.take i) ∧ sumC (G.take i) ≤ 9 * (i : Int) ∧ Fr (fun _ => False) w2 wr) (fun _ a _ => G.length - (intOf a).toNat)
  case atStart => exact ⟨0, by omega, rfl, rfl, by simp [sumC], by simp [sumC], Fr.refl _ _⟩
  case round =>
    obtain ⟨i, hi, rfl, rfl, hs0, hs9, fr⟩ := hrel
    have FR := hid fr
    have hi0 : (0 : Int) ≤ (i : Int) := by omega
    clear fr
    by_cases hlt : i < G.length
    · have hltI : (i : Int) < (G.length : Int) := by omega
      rcases O1.out.empty with ⟨_, hn⟩ | ⟨g1, cc1, hv, hgb, hgl1⟩
      · rw [hn] at hlt; simp at hlt
      cases hv
      have CG := hid ((O1.out.cell rfl hlt).1)
      have CN := hid ((O1.out.cell rfl hlt).2)
      obtain ⟨gj, hgj, hpos, hg2⟩ := HGA.out i hlt
      have HTK : Hid (sumC (G.take (i + 1)) = sumC (G.take i) + (cG f H (gj : Int) : Int)) := by
        unfold Hid
        rw [take_succC G i hlt, sumC_snoc, hgj]
      have HPV : Hid (∀ m, i = m + 1 → ∃ y, At w2 g1 (m * 2) (.int .i64 y) ∧ y < (gj : Int)) := by
        intro m hm
        subst hm
        have := HAS.out m hlt
        rw [hgj] at this
        exact ⟨_, (O1.out.cell rfl (Nat.lt_of_succ_lt hlt)).1, this⟩
      rw [hgj] at CG CN
      simp only at CG CN
      have hcl := cG_le f H (gj : Int)
      clear hgj
      obtain ⟨N, hN⟩ : ∃ N : Int, N = (cG f H (gj : Int) : Int) := ⟨_, rfl⟩
      rw [← hN] at CN HTK
      have HNN := hid hN
      have hN0 : ¬ N ≤ 0 := by omega
      have hN9 : N ≤ 9 := by omega
      clear hN hpos hcl
      obtain ⟨S, hS⟩ : ∃ S, S = sumC (G.take i) := ⟨_, rfl⟩
      rw [← hS] at HTK hs0 hs9 ⊢
      clear hS
      go_wp2_with fail
      go_loopw [12, 13] (fun n b wi => ∃ k : Nat, k ≤ H.length ∧ b = .int .i64 k ∧ n = .int .i64 (cG f (H.take k) (gj : Int) : Int) ∧ Fr (fun _ => False) w2 wi) (fun _ b _ => H.length - (intOf b).toNat)
      case atStart => exact ⟨0, by omega, rfl, by simp [cG], FR.out⟩
      case round =>
        obtain ⟨k, hk, rfl, rfl, fi⟩ := hrel
        have FI := hid fi
        have hk0 : (0 : Int) ≤ (k : Int) := by omega
        clear fi
        by_cases hkl : k < H.length
        · have hklI : (k : Int) < (H.length : Int) := by omega
          rcases O2.out.empty with ⟨_, hn⟩ | ⟨g2, cc2, hv, hgb2, hgl2⟩
          · rw [hn] at hkl; simp at hkl
          cases hv
          have CH := hid ((O2.out.cell rfl hkl).fr FI.out (fun h => h))
          have HCK : Hid (cG f (H.take (k + 1)) = incC (cG f (H.take k)) (getP f (H.getD k 0)).g) := by
            unfold Hid
            have : H.getD k 0 = H[k] := by simp [List.getD, hkl]
            rw [List.take_succ_eq_append_getElem hkl, this, cG_snoc]
          generalize H.getD k 0 = id at *
          have hck := cG_le f (H.take k) (gj : Int)
          have hct : (H.take k).length ≤ H.length := List.length_take_le' _ _
          obtain ⟨C, hC⟩ : ∃ C, C = cG f (H.take k) := ⟨_, rfl⟩
          rw [← hC] at HCK hck ⊢
          clear hC
          have hC9 : (C (gj : Int) : Int) ≤ 9 := by omega
          have hC0 : (0 : Int) ≤ (C (gj : Int) : Int) := by omega
          have AI := hid (A2.out.fr FI.out (fun h => h))
          have CGI := hid (CG.out.fr FI.out (fun h => h))
          have HGP : Hid (∀ W, Fr (fun _ => False) wr W → Calls Try.prog 63 #[.agg #[.pointer (some ⟨bX, 0, none⟩)], .int .i64 id] W fun e w' => e = .returned (.int .i64 (getP f id).g) ∧ Fr (fun _ => False) W w') := by
            intro W hW
            have := groupAt_any ((Q2.out.xr.frw FI.out (fun _ _ h => h)).frw hW (fun _ _ h => h)) id
            simp only [bwV] at this
            exact this
          have ca := AI.out.c
          have ch := CH.out.c
          have cg := CGI.out.c
          have la := AI.out.lt
          have lh := CH.out.lt
          have lg := CGI.out.lt
          obtain ⟨gg, hgg⟩ : ∃ gg, gg = (getP f id).g := ⟨_, rfl⟩
          rw [← hgg] at HGP HCK
          clear hgg
          go_upto_region 11 with fail
          go_cut [47] (fun c wx => c = .bool (gg == (gj : Int)) ∧ Fr (fun _ => False) wr wx)
          case first =>
            go_region_with (go_at_call 63; refine (HGP.out _ (by exact (Fr.refl _ _).drew)).mono ?_; rintro e x7 ⟨rfl, f7⟩; have F7 := hid ((Fr.refl (fun _ => False) wr).drew.trans f7); have cg7 := (CGI.out.fr F7.out (fun h => h)).c)
            all_goals go_wp2_with fail
            all_goals go_meet
            all_goals exact ⟨rfl, F7.out⟩
          case rest =>
            obtain ⟨rfl, fc⟩ := hcut
            have FC := hid (FI.out.trans fc)
            clear fc ca ch cg la lh lg HGP
            by_cases heq : gg = (gj : Int)
            · have hb : (gg == (gj : Int)) = true := by simp [heq]
              have HV : Hid (cG f (H.take (k + 1)) (gj : Int) = C (gj : Int) + 1) := by rw [HCK.out]; simp [Hid, incC, heq]
              rw [hb]
              clear heq hb
              go_wp2_with fail
              exact ⟨⟨k + 1, by omega, by go_num, by rw [HV.out]; go_num, FC.out⟩, by simp [intOf]; omega⟩
            · have hb : (gg == (gj : Int)) = false := by simp [heq]
              have heq' : ¬ (gj : Int) = gg := fun e => heq e.symm
              have HV : Hid (cG f (H.take (k + 1)) (gj : Int) = C (gj : Int)) := by rw [HCK.out]; simp [Hid, incC, heq']
              rw [hb]
              clear heq hb heq'
              go_wp2_with fail
              exact ⟨⟨k + 1, by omega, by go_num, by rw [HV.out], FC.out⟩, by simp [intOf]; omega⟩
        · have hklI : ¬ (k : Int) < (H.length : Int) := by omega
          have e : (cG f (H.take k) (gj : Int) : Int) = N := by rw [List.take_of_length_le (by omega), HNN.out]
          rw [e]
          clear e
          have CGI := hid (CG.out.fr FI.out (fun h => h))
          have CNI := hid (CN.out.fr FI.out (fun h => h))
          have cn := CNI.out.c
          have cg := CGI.out.c
          go_upto_region 15 with fail
          go_cut [80] (fun c wx => c = .bool false ∧ Fr (fun _ => False) wr wx)
          case first =>
            have hle : decide (N ≤ 0) = false := decide_eq_false (by omega)
            by_cases hi1 : i = 0
            · subst hi1
              go_wp2_with fail
              go_quiet (fail)
              go_wp2_with fail
              go_meet
              case rel => exact ⟨rfl, (Fr.refl _ _).drewN _⟩
            · obtain ⟨m, rfl⟩ : ∃ m, i = m + 1 := ⟨i - 1, by omega⟩
              obtain ⟨y, CY, hyx⟩ := HPV.out m rfl
              have hw : IntKind.i64.wrap (((m + 1 : Nat) : Int) - 1) = (m : Int) := by rw [show ((m + 1 : Nat) : Int) - 1 = (m : Int) from by omega]; exact Go.IntWalk.i64_in _ (by omega)
              have hp : decide ((0 : Int) < ((m + 1 : Nat) : Int)) = true := decide_eq_true (by omega)
              have hm0 : (0 : Int) ≤ (m : Int) := by omega
              have hmL : (m : Int) < (G.length : Int) := by omega
              have cy := (CY.fr FI.out (fun h => h)).c
              have hge : decide ((gj : Int) ≤ y) = false := by simp; omega
              clear CY
              go_wp2_with fail
              go_quiet (fail)
              go_wp2_with fail
              go_meet
              case rel => exact ⟨rfl, (Fr.refl _ _).drewN _⟩
          case rest =>
            obtain ⟨rfl, fc⟩ := hcut
            have FC := hid (FI.out.trans fc)
            have cn2 := (CNI.out.fr fc (fun h => h)).c
            clear fc cn cg
            have hsb : S ≤ 27 := by omega
            go_wp2_with fail
            exact ⟨⟨i + 1, by omega, by go_num, by rw [HTK.out], by rw [HTK.out]; omega, by rw [HTK.out]; omega, FC.out⟩, by simp [intOf]; omega⟩
    · have hltI : ¬ (i : Int) < (G.length : Int) := by omega
      have e : sumC (G.take i) = (H.length : Int) := by rw [List.take_of_length_le (by omega), HSUM.out]
      rw [e]
      clear e hs0 hs9
      have QR' := hid (Q2.out.frw FR.out (fun _ _ h => h))
      go_wp2_with fail
      refine (all_any QR'.out HX.out).mono ?_
      rintro e w5 ⟨v5, rfl, o5, f5⟩
      have F5 := hid ((F2.out.trans FR.out).trans f5)
      rw [← HHE.out] at o5
      obtain ⟨a5, c5, e5⟩ : ∃ a c, v5 = .slice a H.length c := by
        rcases o5.empty with ⟨e1, e2⟩ | ⟨g, cap, e1, _⟩
        · exact ⟨none, 0, by rw [e1, e2]; rfl⟩
        · exact ⟨_, cap, e1⟩
      subst e5
      clear o5 f5
      go_wp2_with fail
      go_ret
      exact ⟨by simp, F5.out⟩

end Go.Proofs.Qxb6500450a
