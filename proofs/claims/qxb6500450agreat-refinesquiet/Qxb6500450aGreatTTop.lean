/- The model's Top. -/
import Derived.Test.Qxb6500450aGreatTFind
namespace Go.Proofs.Qxb6500450aGreat
open Go Go.RowKit
set_option maxRecDepth 100000
set_option maxHeartbeats 3200000
set_option linter.unusedSimpArgs false
set_option linter.unusedVariables false
variable {bY bM : Nat}

def six : List Nat := [6, 5, 4, 3, 2, 1]
def isF (f : DocF) (n : Nat) (x : ByteArray) : Bool := frq f x == n
def rkP (f : DocF) (i : Nat) : List ByteArray := (six.take i).flatMap fun n => (wordsOf f).filter (isF f n)
def rkQ (f : DocF) (i a : Nat) : List ByteArray := rkP f i ++ ((wordsOf f).take a).filter (isF f (6 - i))
theorem rkP_six (f : DocF) : rkP f 6 = rankL f := rfl
theorem rkQ_zero (f : DocF) (i : Nat) : rkQ f i 0 = rkP f i := by simp [rkQ]
theorem rkQ_full (f : DocF) {i a : Nat} (hi : i < 6) (ha : (wordsOf f).length ≤ a) : rkQ f i a = rkP f (i + 1) := by
  unfold rkQ rkP
  rw [List.take_of_length_le ha]
  have h : i = 0 ∨ i = 1 ∨ i = 2 ∨ i = 3 ∨ i = 4 ∨ i = 5 := by omega
  rcases h with rfl | rfl | rfl | rfl | rfl | rfl <;> simp [six]
theorem rkQ_succ (f : DocF) (i : Nat) {a : Nat} (ha : a < (wordsOf f).length) : rkQ f i (a + 1) = rkQ f i a ++ (if isF f (6 - i) ((wordsOf f).getD a ⟨#[]⟩) then [(wordsOf f).getD a ⟨#[]⟩] else []) := by
  unfold rkQ
  rw [take_succ_getD (wordsOf f) a ha, List.filter_append, List.append_assoc]
  congr 1
  generalize (wordsOf f).getD a ⟨#[]⟩ = x
  by_cases c : isF f (6 - i) x = true
  · simp [c]
  · simp [c]
/-- A list that has k words already grows no more. -/
theorem rkQ_done (f : DocF) {i a k : Nat} (hi : i < 6) (h : k ≤ (rkQ f i a).length) : (rkQ f i a).take k = (rkP f (i + 1)).take k := by
  rw [← rkQ_full f hi (Nat.le_refl _)]
  have e : rkQ f i (wordsOf f).length = rkQ f i a ++ ((wordsOf f).drop a).filter (isF f (6 - i)) := by
    unfold rkQ
    rw [List.take_length, List.append_assoc, ← List.filter_append, List.take_append_drop]
  rw [e, List.take_append_of_le_length h]

theorem vtop_any {w : World} {G : Nat → Prop} {bV : Nat} {f : DocF} {r : Int → Nat} (h : VR bY bM w G bV f r) (hG : ∀ i, G i → i < w.heap.size) (k : Int) :
    Calls Tryz.prog 38 #[.pointer (some ⟨bV, 0, none⟩), .int .i64 k] w fun e w' => ∃ v, e = .returned (.tuple #[v, .int .i64 (topE k)]) ∧ OwnS w' w.heap.size v (topL f k) ∧ (topL f k = [] → v = .slice none 0 0) ∧ VR bY bM w' G bV f r ∧ Fr G w w' := by
  have HV := hid h
  have HGB := hid hG
  have OK := hid h.ok
  clear hG
  by_cases h1 : k < 0
  · have HE : Hid (topE k = 8) := by unfold Hid topE; rw [if_pos (.inl h1)]
    have HL : Hid (topL f k = []) := by unfold Hid topL; rw [HE.out, if_neg (by omega)]
    clear h
    go_enter Tryz.func38, Tryz.ntmps38
    go_wp2_with fail
    go_ret2
    rw [HE.out, HL.out]
    exact ⟨_, rfl, OwnS.nil _ _, fun _ => rfl, HV.out, Fr.refl _ _⟩
  by_cases h4 : 4 < k
  · have HE : Hid (topE k = 8) := by unfold Hid topE; rw [if_pos (.inr h4)]
    have HL : Hid (topL f k = []) := by unfold Hid topL; rw [HE.out, if_neg (by omega)]
    clear h
    go_enter Tryz.func38, Tryz.ntmps38
    go_wp2_with fail
    go_ret2
    rw [HE.out, HL.out]
    exact ⟨_, rfl, OwnS.nil _ _, fun _ => rfl, HV.out, Fr.refl _ _⟩
  have HE : Hid (topE k = 0) := by unfold Hid topE; rw [if_neg (by omega)]
  have HL : Hid (topL f k = (rankL f).take k.toNat) := by unfold Hid topL; rw [HE.out, if_pos rfl]
  obtain ⟨kn, rfl⟩ : ∃ kn : Nat, k = (kn : Int) := ⟨k.toNat, by omega⟩
  rw [Int.toNat_natCast] at HL
  have hkn : kn ≤ 4 := by omega
  obtain ⟨GY, h⟩ := h
  have H := hid h
  have c0 := h.v0.c
  have HW := hid (ywords_any h.y (fun i hi => (h.gy i hi).2))
  clear h
  go_enter Tryz.func38, Tryz.ntmps38
  go_upto_region 4 with (first
    | (go_at_call 70; refine HW.out.mono ?_; rintro e w1 ⟨v1, rfl, o1, _, y1, f1⟩)
    | go_in)
  have H1 := hid (H.out.asks f1 y1)
  have O1 := hid o1
  have F1 := hid (H.out.up f1)
  have HZ1 := hid F1.out.size
  clear o1 y1 f1 HW c0 H
  have hwl := wordsOf_len OK.out
  have HQS : Hid (∀ i a, a < (wordsOf f).length → rkQ f i (a + 1) = rkQ f i a ++ (if isF f (6 - i) ((wordsOf f).getD a ⟨#[]⟩) then [(wordsOf f).getD a ⟨#[]⟩] else [])) := fun i a ha => rkQ_succ f i ha
  have HQF : Hid (∀ i a, i < 6 → (wordsOf f).length ≤ a → rkQ f i a = rkP f (i + 1)) := fun i a hi ha => rkQ_full f hi ha
  obtain ⟨Wd, hW⟩ : ∃ Wd, Wd = wordsOf f := ⟨_, rfl⟩
  rw [← hW] at O1 hwl HQS HQF
  clear hW
  obtain ⟨a1, c1, e1⟩ := O1.out.form
  subst e1
  have hWI : (Wd.length : Int) ≤ 117 := by omega
  go_wp2_with fail
  go_loopw [7, 8] (fun v b wr => ∃ i : Nat, i ≤ 6 ∧ b = .int .i64 (6 - (i : Int)) ∧ OwnS wr w1.heap.size v ((rkP f i).take kn) ∧ ((rkP f i).take kn = [] → v = .slice none 0 0) ∧ VC wr G bV f r bY bM GY ∧ Fr G w1 wr) (fun _ b _ => (intOf b).toNat)
  case atStart => exact ⟨0, by omega, rfl, by simpa [rkP] using OwnS.nil w1 _, fun _ => rfl, H1.out, Fr.refl _ _⟩
  case round =>
    clear H1
    obtain ⟨i, hi, rfl, ow, hnl, hv, fr⟩ := hrel
    have OW := hid ow
    have NL := hid hnl
    have HC := hid hv
    have FR := hid fr
    clear ow hnl hv fr
    generalize u7 = vo at *
    by_cases hlt : i < 6
    · obtain ⟨g, hg⟩ : ∃ g : Int, g = 6 - (i : Int) := ⟨_, rfl⟩
      rw [← hg]
      have hg1 : 1 ≤ g := by omega
      have hg6 : g ≤ 6 := by omega
      have HGG : Hid (g = ((6 - i : Nat) : Int)) := by unfold Hid; omega
      have HGI : Hid (g - 1 = 6 - ((i + 1 : Nat) : Int)) := by unfold Hid; omega
      clear hg
      rw [← rkQ_zero f i] at OW NL
      go_wp2_with fail
      go_loopw [7, 9] (fun v b wi => ∃ a : Nat, a ≤ Wd.length ∧ b = .int .i64 a ∧ OwnS wi w1.heap.size v ((rkQ f i a).take kn) ∧ ((rkQ f i a).take kn = [] → v = .slice none 0 0) ∧ VC wi G bV f r bY bM GY ∧ Fr G w1 wi) (fun _ b _ => Wd.length - (intOf b).toNat)
      case atStart => exact ⟨0, by omega, rfl, OW.out, NL.out, HC.out, FR.out⟩
      case round =>
        clear OW NL HC FR
        obtain ⟨a, ha, rfl, ow, hnl, hv, fr⟩ := hrel
        have OW := hid ow
        have NL := hid hnl
        have HC := hid hv
        have FR := hid fr
        have ha0 : (0 : Int) ≤ (a : Int) := by omega
        clear ow hnl hv fr
        generalize u7 = vi at *
        obtain ⟨va, vc, hvi⟩ := OW.out.form
        obtain ⟨X, hX⟩ : ∃ X, X = (rkQ f i a).take kn := ⟨_, rfl⟩
        rw [← hX] at OW NL hvi
        have HX := hid hX
        have hXl : X.length ≤ kn := by rw [hX, List.length_take]; omega
        clear hX
        subst hvi
        have hXI : (X.length : Int) ≤ 4 := by omega
        by_cases hal : a < Wd.length
        · have halI : (a : Int) < (Wd.length : Int) := by omega
          by_cases hful : X.length < kn
          · have hfI : (X.length : Int) < (kn : Int) := by omega
            rcases O1.out.empty with ⟨_, hn⟩ | ⟨g1, cc1, hv, hgb, hgl1⟩
            · rw [hn] at hal; simp at hal
            cases hv
            have nG1 : ¬ G g1 := fun c => by have := HGB.out g1 c; omega
            have CW := hid ((O1.out.cell rfl hal).fr FR.out nG1)
            have HQ1 := hid (HQS.out i a hal)
            have HXE : Hid (rkQ f i a = X) := by
              have h1 := HX.out
              unfold Hid
              rw [h1, List.take_of_length_le]
              have h2 := congrArg List.length h1
              rw [List.length_take] at h2
              omega
            obtain ⟨x, hx⟩ : ∃ x, x = Wd.getD a ⟨#[]⟩ := ⟨_, rfl⟩
            rw [← hx] at CW HQ1
            clear hx
            have HFR : Hid (∀ W, Fr (fun _ => False) wr W → Calls Tryz.prog 71 #[.pointer (some ⟨bY, 0, none⟩), .string x] W fun e w' => e = .returned (.int .i64 (frq f x : Int)) ∧ YR bM w' GY bY f r ∧ Fr GY W w') := fun W hW => yfreq_any (HC.out.y.frw hW (fun _ _ h => h)) (fun i hi => Nat.lt_of_lt_of_le (HC.out.gy i hi).2 hW.size) x
            obtain ⟨z, hz⟩ : ∃ z : Int, z = (frq f x : Int) := ⟨_, rfl⟩
            rw [← hz] at HFR
            have HZZ := hid hz
            clear hz
            have c0 := HC.out.v0.c
            have cw := CW.out.c
            have l0 := HC.out.v0.lt
            have l1 := CW.out.lt
            go_upto_region 11 with fail
            go_cut [10] (fun v wx => v = .int .i64 z ∧ VC wx G bV f r bY bM GY ∧ Fr G wr wx)
            case first =>
              go_region_with (go_at_call 71; refine (HFR.out _ (by exact (Fr.refl _ _).drew)).mono ?_; rintro e x7 ⟨rfl, y7, f7⟩; have V7 := hid ((HC.out.frw (Fr.refl (fun _ => False) wr).drew (fun _ _ h => h)).asks f7 y7); have F7 := hid (((Fr.refl G wr).drew).trans (HC.out.up f7)))
              all_goals go_wp2_with fail
              all_goals go_meet
              all_goals exact ⟨rfl, V7.out, F7.out⟩
            case rest =>
              obtain ⟨rfl, v7, f7⟩ := hcut
              have HC7 := hid v7
              have F7 := hid (FR.out.trans f7)
              have nX : Hid (∀ k, (Value.slice va X.length vc).ownBlock = some k → ¬ G k) := fun k hk c => by have := (OW.out.lt hk).1; have := HGB.out k c; have := HZ1.out; omega
              have OW7 := hid (OW.out.fr f7 nX.out)
              have CW7 := hid (CW.out.fr f7 nG1)
              have hs7 := F7.out.size
              clear v7 f7 c0 cw l0 l1 HFR
              by_cases heq : z = g
              · have hbz : (z == g) = true := by simp [heq]
                have HIS : Hid (isF f (6 - i) x = true) := by
                  unfold Hid isF
                  have h1 := HZZ.out
                  have h2 := HGG.out
                  have : frq f x = 6 - i := by omega
                  simp [this]
                have HQ2 : Hid ((rkQ f i (a + 1)).take kn = X ++ [x]) := by
                  unfold Hid
                  rw [HQ1.out, HIS.out, if_pos rfl, HXE.out, List.take_of_length_le (by simp; omega)]
                have cw := CW7.out.c
                clear heq
                go_wp2_with (first
                  | (at_builtin; refine wp_appS rfl rfl (v := .slice va X.length vc) rfl (OW7.out.fr ((Fr.refl (fun _ => False) _).alloc _) (fun _ _ h => h)) rfl (y := x) (At.new wc #[.string x] _ rfl).c (by omega) (by simp; omega) ?_; intro tg tc w8 ow8 f8 hg8 hl8; go_frame)
                  | go_in)
                exact ⟨⟨a + 1, by omega, by go_num, by rw [HQ2.out]; exact ow8, fun e => absurd e (by rw [HQ2.out]; simp), (HC7.out.frw ((Fr.refl (fun _ => False) _).alloc _) (fun _ _ h => h)).frw f8 (fun i hi c => nX.out i c hi), (F7.out.alloc _).then f8 (fun i hi c => by have := (OW7.out.lt c).1; omega)⟩, by simp [intOf]; omega⟩
              · have hbz : (z == g) = false := by simp [heq]
                have HIS : Hid (isF f (6 - i) x = false) := by
                  unfold Hid isF
                  have h1 := HZZ.out
                  have h2 := HGG.out
                  have : ¬ frq f x = 6 - i := by omega
                  simp [this]
                have HQ2 : Hid ((rkQ f i (a + 1)).take kn = X) := by
                  unfold Hid
                  rw [HQ1.out, HIS.out, HX.out]
                  simp
                clear heq
                go_wp2_with fail
                exact ⟨⟨a + 1, by omega, by go_num, by rw [HQ2.out]; exact OW7.out, by rw [HQ2.out]; exact NL.out, HC7.out, F7.out⟩, by simp [intOf]; omega⟩
          · have hfI : ¬ (X.length : Int) < (kn : Int) := by omega
            have HQ2 : Hid ((rkP f (i + 1)).take kn = X) := by
              have h1 := HX.out
              unfold Hid
              rw [h1]
              refine (rkQ_done f hlt ?_).symm
              have h2 := congrArg List.length h1
              rw [List.length_take] at h2
              omega
            go_wp2_with fail
            exact ⟨⟨i + 1, by omega, by rw [← HGI.out], by rw [HQ2.out]; exact OW.out, by rw [HQ2.out]; exact NL.out, HC.out, FR.out⟩, by simp [intOf]; omega⟩
        · have halI : ¬ (a : Int) < (Wd.length : Int) := by omega
          have HQ2 : Hid ((rkP f (i + 1)).take kn = X) := by
            unfold Hid
            rw [HX.out, HQF.out i a hlt (by omega)]
          go_wp2_with fail
          exact ⟨⟨i + 1, by omega, by rw [← HGI.out], by rw [HQ2.out]; exact OW.out, by rw [HQ2.out]; exact NL.out, HC.out, FR.out⟩, by simp [intOf]; omega⟩
    · have hie : i = 6 := by omega
      subst hie
      rw [rkP_six, ← HL.out] at OW NL
      go_wp2_with fail
      go_ret2
      rw [HE.out]
      exact ⟨_, rfl, OW.out.base HZ1.out, NL.out, ⟨_, HC.out⟩, F1.out.trans FR.out⟩

end Go.Proofs.Qxb6500450aGreat
