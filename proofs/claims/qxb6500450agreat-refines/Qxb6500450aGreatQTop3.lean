/- Top. -/
import Derived.Test.Qxb6500450aGreatQTop2
namespace Go.Proofs.Qxb6500450aGreat
open Go Go.RowKit
set_option maxRecDepth 100000
set_option maxHeartbeats 1600000
set_option linter.unusedSimpArgs false
set_option linter.unusedVariables false
variable {bS bX : Nat}

/-- v[:q] of a row that is owned. -/
theorem OwnS.takeO {w : World} {base g n cap : Nat} {l : List ByteArray} (h : OwnS w base (.slice (some ⟨g, 0, none⟩) n cap) l) (hn : n = l.length) {q : Nat} (hq : q ≤ n) : OwnS w base (.slice (some ⟨g, 0, none⟩) q cap) (l.take q) := by
  subst hn
  rcases h.2 with ⟨e, _⟩ | ⟨g', cap', cur, e, h1, h2, h3, h4, h5, h6⟩
  · cases e
  · cases e
    refine ⟨by simp, .inr ⟨g, cap, cur, ?_, h1, h2, ?_, h4, h5, ?_⟩⟩
    · simp; omega
    · simp; omega
    · have hl : (l.take q).length = q := by simp; omega
      rw [hl, List.map_take, ← h6, List.take_take]
      congr 1
      omega
theorem wp_takeS {w : World} {ops : Array Oper} {rest : List Oper} {o : Oper} {a : Act} {Q : Exit → Act → World → Prop} (hgd : o.guard = none) {x y : Operand} (ho : o.op = .slice 67 x none (some y) none) {base g n cap : Nat} {l : List ByteArray} (hown : OwnS w base (.slice (some ⟨g, 0, none⟩) n cap) l) (hn : n = l.length) (hx : a.eval x = .slice (some ⟨g, 0, none⟩) n cap) {q : Nat} (hy : a.eval y = .int .i64 (q : Int)) (hq : q ≤ n)
    (h : OwnS w base (.slice (some ⟨g, 0, none⟩) q cap) (l.take q) → wpList Tryz.prog ops Q rest (a.put o.dst (.slice (some ⟨g, 0, none⟩) q cap)) w) : wpList Tryz.prog ops Q (o :: rest) a w := by
  refine wpList_plain hgd fun K' hK' => ?_
  have hr := hown.room
  have hrun : (Instr.slice 67 (.slice (some ⟨g, 0, none⟩) n cap) none (some (.int .i64 (q : Int))) none).run Tryz.prog w = .ok (.slice (some ⟨g, 0, none⟩) q cap) w := by
    rw [run_slice_h w _ _ _ cap uSliceStr' .i64 (q : Int) (by omega) (by omega), szStr1]
    simp [sliced, Result.andThen, Addr.add]
  have hrun' := (run_sliceAt_slice (P := Tryz.prog) w 67 (.slice (some ⟨g, 0, none⟩) n cap) none (some (.int .i64 (q : Int))) none uSliceStr').trans hrun
  unfold Oper.wp
  simp [execOp, ho, hx, hy, hrun', Result.andThen]
  exact hK' _ _ (h (hown.takeO hn hq))

/-- What Top answers. -/
def topE (k : Int) : Int := if k < 0 ∨ 4 < k then 8 else 0
def topL (f : DocF) (k : Int) : List ByteArray := if topE k = 0 then (rankL f).take k.toNat else []

theorem top_any {w : World} {F : Nat → Prop} {bQ : Nat} {f : DocF} {r : Int → Nat} (h : QR bX bS w F bQ f r) (k : Int) :
    Calls Tryz.prog 29 #[.pointer (some ⟨bQ, 0, none⟩), .int .i64 k] w fun e w' => ∃ v, e = .returned (.tuple #[v, .int .i64 (topE k)]) ∧ OwnS w' w.heap.size v (topL f k) ∧ (topL f k = [] → v = .slice none 0 0) ∧ Fr (fun _ => False) w w' := by
  have OK := hid h.ok
  by_cases h1 : k < 0
  · have HE : Hid (topE k = 8) := by unfold Hid topE; rw [if_pos (.inl h1)]
    have HL : Hid (topL f k = []) := by unfold Hid topL; rw [HE.out, if_neg (by omega)]
    clear h
    go_enter Tryz.func29, Tryz.ntmps29
    go_wp2_with fail
    go_ret2
    rw [HE.out, HL.out]
    exact ⟨_, rfl, OwnS.nil _ _, fun _ => rfl, Fr.refl _ _⟩
  by_cases h4 : 4 < k
  · have HE : Hid (topE k = 8) := by unfold Hid topE; rw [if_pos (.inr h4)]
    have HL : Hid (topL f k = []) := by unfold Hid topL; rw [HE.out, if_neg (by omega)]
    clear h
    go_enter Tryz.func29, Tryz.ntmps29
    go_wp2_with fail
    go_ret2
    rw [HE.out, HL.out]
    exact ⟨_, rfl, OwnS.nil _ _, fun _ => rfl, Fr.refl _ _⟩
  have HE : Hid (topE k = 0) := by unfold Hid topE; rw [if_neg (by omega)]
  have HL : Hid (topL f k = (rankL f).take k.toNat) := by unfold Hid topL; rw [HE.out, if_pos rfl]
  obtain ⟨kn, rfl⟩ : ∃ kn : Nat, k = (kn : Int) := ⟨k.toNat, by omega⟩
  have hkn : kn ≤ 4 := by omega
  obtain ⟨FX, h⟩ := h
  have H := hid h
  have m2 := @run_makeMap Tryz.prog
  have M0 := hid (MapF.new sk w)
  rw [fqm_nil f] at M0
  have F0 := hid ((Fr.refl (fun _ => False) w).alloc (.map #[] 0))
  have H0 := hid (h.frw F0.out (fun _ _ h => h))
  clear h
  go_enter Tryz.func29, Tryz.ntmps29
  go_upto_region 4 with fail
  generalize w.alloc (.map #[] 0) = w0 at *
  obtain ⟨bc, hbc⟩ : ∃ bc, bc = w.heap.size := ⟨_, rfl⟩
  rw [← hbc] at M0 ⊢
  have HBC := hid hbc
  clear hbc m2
  have c0 := H0.out.q0.c
  have HD := hid (iwords_any H0.out.x)
  go_wp2_with fail
  refine HD.out.mono ?_
  rintro e w1 ⟨v, rfl, ow, _, f1⟩
  have OW := hid ow
  have F1 := hid (F0.out.trans f1)
  have H1 := hid (H0.out.frw f1 (fun _ _ h => h))
  have M1 := hid (M0.out.fr f1 (fun h => h))
  have HZ0 : Hid (bc < w0.heap.size) := M0.out.lt
  have hwl := wordsOf_len OK.out
  clear ow f1 HD c0 H0 M0
  obtain ⟨va, vc, hv⟩ := OW.out.form
  subst hv
  have hlb : ((wordsOf f).length : Int) ≤ 117 := by omega
  have HNF : Hid (∀ i, F i ∧ i < w.heap.size → ¬ i = bc) := fun i hi e => by have := HBC.out; omega
  have HB1 : Hid (QC w1 (fun i => F i ∧ i < w.heap.size) bQ f r bX bS FX) := { H1.out with fx := fun i hi => ⟨H.out.fx i hi, (H1.out.fx i hi).2⟩, fq := ⟨H.out.fq, H.out.q0.lt⟩ }
  clear H1
  go_wp2_with fail
  go_loopw [24] (fun b wr => ∃ a n : Nat, a ≤ (wordsOf f).length ∧ n ≤ a ∧ b = .int .i64 a ∧ MapF sk wr bc (fqm f ((wordsOf f).take a)) n ∧ Fr (fun i => i = bc) w1 wr) (fun b _ => (wordsOf f).length - (intOf b).toNat)
  case atStart => exact ⟨0, 0, by omega, by omega, rfl, M1.out, Fr.refl _ _⟩
  case round =>
    clear M1
    obtain ⟨a, n, ha, hna, rfl, mo, fr⟩ := hrel
    have MO := hid mo
    have FR := hid fr
    have ha0 : (0 : Int) ≤ (a : Int) := by omega
    clear mo fr
    have HQ := hid (HB1.out.frw FR.out HNF.out)
    by_cases hlt : a < (wordsOf f).length
    · have hltI : (a : Int) < ((wordsOf f).length : Int) := by omega
      rcases OW.out.empty with ⟨_, hn⟩ | ⟨gi, ci, hv, hgb, hgl⟩
      · rw [hn] at hlt; simp at hlt
      cases hv
      have hgne : ¬ gi = bc := fun e => by have := HZ0.out; omega
      have ci' := ((OW.out.cell rfl hlt).fr FR.out hgne).c
      have HTK := hid (take_succ_getD (wordsOf f) a hlt)
      generalize (wordsOf f).getD a ⟨#[]⟩ = x at *
      have c0 := HQ.out.q0.c
      go_wp2_with (first
        | (go_at_call 59; refine (ifreq_any HQ.out.x x).mono ?_; rintro e w3 ⟨rfl, hw3⟩; obtain rfl := hw3.symm)
        | (at_mapUpdate; refine wp_upd rfl rfl kStr uFreq MO.out rfl (k := x) rfl (u := .int .i64 (frq f x : Int)) rfl ?_; intro w4 hm4 hf4 hs4; go_frame)
        | go_in)
      rw [fqm_add, ← HTK.out] at hm4
      exact ⟨⟨a + 1, _, by omega, by split <;> omega, by go_num, hm4, FR.out.trans hf4⟩, by simp [intOf]; omega⟩
    · have hltI : ¬ (a : Int) < ((wordsOf f).length : Int) := by omega
      rw [List.take_of_length_le (by omega)] at MO
      have FW : Hid (Fr (fun _ => False) w wr) := F1.out.then FR.out (fun i hi e => by have := HBC.out; omega)
      clear HQ HB1 FR OW H F1 F0
      have HRK := hid (ranked_any OK.out MO.out (by omega))
      go_wp2_with fail
      refine HRK.out.mono ?_
      rintro e w5 ⟨v5, rfl, o5, f5⟩
      have O5 := hid (o5.base FW.out.size)
      have F5 := hid (FW.out.trans f5)
      have HRL := hid (rankL_len OK.out)
      clear o5 f5 HRK
      obtain ⟨L, hL⟩ : ∃ L, L = (rankL f).length := ⟨_, rfl⟩
      have HLL := hid hL
      obtain ⟨va5, vc5, hv5⟩ := O5.out.form
      subst hv5
      rw [← hL] at O5 ⊢
      clear hL
      have hL117 : L ≤ 117 := by have := HLL.out; have := HRL.out; omega
      have hmin : min (kn : Int) (L : Int) = ((min kn L : Nat) : Int) := by omega
      obtain ⟨q, hq⟩ : ∃ q, q = min kn L := ⟨_, rfl⟩
      rw [← hq] at hmin
      have HQQ := hid hq
      clear hq
      by_cases hq0 : q = 0
      · subst hq0
        have HT : Hid ((rankL f).take kn = []) := by
          unfold Hid
          have := HQQ.out
          have := HLL.out
          apply List.eq_nil_of_length_eq_zero
          rw [List.length_take]
          omega
        go_wp2_with fail
        go_ret2
        rw [HE.out, HL.out, Int.toNat_natCast, HT.out]
        exact ⟨_, rfl, OwnS.nil _ _, fun _ => rfl, F5.out⟩
      · have hqb : ((q : Int) == 0) = false := by simp; exact hq0
        have HT : Hid ((rankL f).take kn = (rankL f).take q) := by
          unfold Hid
          have h1 := HQQ.out
          have h2 := HLL.out
          by_cases c : kn ≤ L
          · rw [show q = kn from by omega]
          · rw [List.take_of_length_le (by omega), List.take_of_length_le (by omega)]
        rcases O5.out.empty with ⟨_, hn⟩ | ⟨g5, c5, hv, hgb, hgl⟩
        · have := HLL.out; rw [hn] at this; have := HQQ.out; simp at *; omega
        have hqL : q ≤ L := by have := HQQ.out; omega
        have hg : ∃ g, va5 = some ⟨g, 0, none⟩ := by
          simp only [Value.slice.injEq] at hv
          exact ⟨g5, hv.1⟩
        obtain ⟨g, rfl⟩ := hg
        clear hv
        go_wp2_with (first
          | (refine wp_takeS rfl rfl O5.out HLL.out rfl (q := q) rfl hqL ?_; intro o6)
          | go_in)
        go_ret2
        rw [HE.out, HL.out, Int.toNat_natCast, HT.out]
        refine ⟨_, rfl, o6, fun e0 => ?_, F5.out⟩
        have h7 := congrArg List.length e0
        rw [List.length_take, List.length_nil] at h7
        have h8 := HLL.out
        omega

end Go.Proofs.Qxb6500450aGreat
