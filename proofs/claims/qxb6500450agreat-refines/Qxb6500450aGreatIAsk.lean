/- The index: Docs, Words. -/
import Derived.Test.Qxb6500450aGreatISort
namespace Go.Proofs.Qxb6500450aGreat
open Go Go.RowKit
set_option maxRecDepth 100000
set_option maxHeartbeats 1600000
set_option linter.unusedSimpArgs false
set_option linter.unusedVariables false
variable {bS : Nat}

theorem range_nil (W : World) : (Instr.range 85 (.map none)).run Tryz.prog W = .ok (.pointer (some ⟨W.heap.size, 0, none⟩)) (W.alloc (.mapIter none 0 #[] 0)) := by kernel_rfl
theorem next_nil (W : World) (ty : TypeId) : (Instr.next (.pointer (some ⟨W.heap.size, 0, none⟩)) false ty).run Tryz.prog (W.alloc (.mapIter none 0 #[] 0)) = .ok (.tuple #[.bool false]) (W.alloc (.mapIter none 0 #[] 0)) := by
  have h : (W.alloc (.mapIter none 0 #[] 0)).heap[W.heap.size]? = some (.mapIter none 0 #[] 0) := (MapKept.heap_alloc W _).1
  simp only [Instr.next, Sem.run_bind, getObj, Sem.run, h, Result.andThen_ok]
  rfl

theorem nine_asc : Asc nine := by unfold Asc nine; decide
theorem docsOf_asc (f : DocF) (x : ByteArray) : Asc (nine.filter (hwD f x)) := nine_asc.sublist List.filter_sublist
theorem asc_of {l : List Int} (h : l.Pairwise (· ≤ ·)) (hn : l.Nodup) : Asc l := by
  unfold Asc
  refine (h.and hn).imp ?_
  rintro a b ⟨h1, h2⟩
  omega

theorem idocs_any {w : World} {F : Nat → Prop} {bX : Nat} {f : DocF} {r : Int → Nat} (h : XR bS w F bX f r) (x : ByteArray) :
    Calls Tryz.prog 55 #[.pointer (some ⟨bX, 0, none⟩), .string x] w fun e w' => ∃ v, e = .returned v ∧ OwnI w' w.heap.size v (docsOf f x) ∧ (docsOf f x = [] → v = .slice none 0 0) ∧ Fr (fun _ => False) w w' := by
  obtain ⟨bi, bb, q, FS, h⟩ := h
  have H := hid h
  have c1 := h.x1.c
  obtain ⟨n, mi⟩ := h.xi.inv
  have hlk := mi.lookup kStr uInv (zPost w) x false
  clear h
  by_cases hL : 12 < x.size
  · have HE : Hid (docsOf f x = []) := by unfold Hid docsOf; rw [if_pos hL]
    have hI : (12 : Int) < (x.size : Int) := by omega
    clear hlk
    go_enter Tryz.func55, Tryz.ntmps55
    go_wp2_with fail
    go_ret
    rw [HE.out]
    exact ⟨_, rfl, OwnI.nil _ _, fun _ => rfl, Fr.refl _ _⟩
  have HE : Hid (docsOf f x = nine.filter (hwD f x)) := by unfold Hid docsOf; rw [if_neg hL]
  have hI : ¬ (12 : Int) < (x.size : Int) := by omega
  have hfd := fld0
  by_cases h0 : fq (hwD f) x = 0
  · have e : im q (hwD f) x = none := by unfold im; rw [if_pos h0]
    rw [e] at hlk
    have hlk' : (Instr.lookup 77 (.map (some bi)) (.string x) false).run Tryz.prog w = .ok (.agg #[.map none, .int .i64 0]) w := hlk
    have HN : Hid (docsOf f x = []) := by
      unfold Hid
      rw [HE.out]
      unfold fq at h0
      rw [List.countP_eq_length_filter] at h0
      exact List.eq_nil_of_length_eq_zero h0
    have hrg := range_nil
    have hnx := fun ty => next_nil w ty
    clear hlk e h0 hL
    go_enter Tryz.func55, Tryz.ntmps55
    go_wp2_with fail
    refine wp_loop_rounds 1 ?_
    rw [rounds_succ]
    go_wp2_with fail
    refine (sortI_any (OwnI.nil (w.alloc (.mapIter none 0 #[] 0)) w.heap.size) (by simp)).mono ?_
    rintro e w1 ⟨rfl, ⟨l', ow, pm, _⟩, f1⟩
    have hl' : l' = [] := pm.eq_nil
    subst hl'
    have OW := hid ow
    have F1 : Hid (Fr (fun _ => False) w w1) := ((Fr.refl (fun _ => False) w).alloc _).trans (f1.mono (fun i _ c => by simp [Value.ownBlock] at c))
    clear ow pm f1
    go_wp2_with fail
    go_ret
    rw [HN.out]
    exact ⟨_, rfl, OW.out, fun _ => rfl, F1.out⟩
  · have e : im q (hwD f) x = some (.agg #[.map (some (q x)), .int .i64 (fq (hwD f) x : Int)]) := by unfold im; rw [if_neg h0]
    rw [e] at hlk
    have hlk' : (Instr.lookup 77 (.map (some bi)) (.string x) false).run Tryz.prog w = .ok (.agg #[.map (some (q x)), .int .i64 (fq (hwD f) x : Int)]) w := hlk
    have MS := hid (H.out.xi.set x h0)
    have H0 := hid h0
    clear hlk e h0 hL
    obtain ⟨bq, hbq⟩ : ∃ bq, bq = q x := ⟨_, rfl⟩
    rw [← hbq] at hlk' MS
    clear hbq
    go_enter Tryz.func55, Tryz.ntmps55
    go_wp2_with (first
      | (at_range; refine wp_range rfl rfl uSet MS.out rfl ?_; intro w1 left0 rg1 ln1 lm1 f1 z1; go_frame)
      | go_in)
    obtain ⟨rb, hrb⟩ : ∃ rb, rb = w.heap.size := ⟨_, rfl⟩
    rw [← hrb] at rg1 z1 ⊢
    have HRB := hid hrb
    have L1 : Hid (∀ k, k ∈ left0 ↔ hwD f x k = true) := fun k => by
      rw [lm1 k]
      unfold sm
      by_cases c : hwD f x k = true <;> simp [c]
    clear hrb ln1 lm1 hlk' c1
    go_loopw [5] (fun v wr => ∃ left S, Ranges ik wr bq rb (sm (hwD f x)) left ∧ OwnI wr (rb + 1) v S ∧ S.Nodup ∧ (∀ k, k ∈ S ↔ hwD f x k = true ∧ k ∉ left) ∧ Fr (fun _ => False) w wr ∧ rb + 1 ≤ wr.heap.size) (fun _ wr => wr.rangeLeft bq rb)
    case atStart => exact ⟨left0, [], rg1, OwnI.nil _ _, List.nodup_nil, fun k => by have := L1.out k; simp; exact fun h => this.2 h, f1, by omega⟩
    case round =>
      obtain ⟨left, S, rg, hown, hnd, hmem, fr, hsz⟩ := hrel
      have RG := hid rg
      have OW := hid hown
      have ND := hid hnd
      have ME := hid hmem
      have FR := hid fr
      have hrS := rg.ne
      have hlS : S.length ≤ 9 := by
        have h1 : S.length ≤ nine.length := nodup_len hnd (fun y hy => by
          have := H.out.xi.sup x y ((hmem y).1 hy).1
          exact mem_nine this.1 this.2)
        have : nine.length = 9 := rfl
        omega
      clear fr hown hnd hmem
      generalize u5 = v at *
      rcases rg.next (P := Tryz.prog) 0 with ⟨hnil, hrun⟩ | ⟨k, vv, w2, hk, hv, hrun, hen, rg2, f2, z2⟩
      · clear rg
        subst hnil
        have HM : Hid (∀ k, k ∈ S ↔ hwD f x k = true) := fun k => by rw [ME.out k]; simp
        go_wp2_with fail
        refine (sortI_any OW.out (by omega)).mono ?_
        rintro e w3 ⟨rfl, ⟨l', ow, pm, so⟩, f3⟩
        have HL : Hid (l' = docsOf f x) := by
          unfold Hid
          rw [HE.out]
          refine asc_ext (asc_of so (pm.nodup_iff.2 ND.out)) (docsOf_asc f x) (fun y => ?_)
          rw [pm.mem_iff, HM.out y, List.mem_filter]
          exact ⟨fun h => ⟨by have := H.out.xi.sup x y h; exact mem_nine this.1 this.2, h⟩, fun h => h.2⟩
        have OW3 := hid ow
        have F3 : Hid (Fr (fun _ => False) w w3) := FR.out.then f3 (fun i hi c => by have := (OW.out.lt c).1; have := HRB.out; omega)
        have HNE : Hid (l' ≠ []) := by
          intro e
          have h1 := congrArg List.length (HL.out.symm.trans e)
          rw [docsOf_len] at h1
          have h2 := HE.out
          unfold docsOf at h2
          have h3 := congrArg List.length HL.out
          rw [e] at h3
          rw [HE.out, ← List.countP_eq_length_filter] at h3
          exact H0.out h3.symm
        clear ow pm so f3
        go_wp2_with fail
        go_ret
        rw [← HL.out]
        exact ⟨_, rfl, OW3.out.mono (by have := HRB.out; omega), fun e => absurd e HNE.out, F3.out⟩
      · have OW2 := hid (OW.out.fr f2 (fun j hj e => by have := (OW.out.lt hj).1; omega))
        have FR2 := hid (FR.out.then f2 (fun i hi e => absurd hi (by rw [e, HRB.out]; omega)))
        have RG2 := hid rg2
        have HK := hid hk
        have hz2 : rb + 1 ≤ w2.heap.size := by omega
        have HF : Hid (hwD f x k = true) := by
          have := rg.here hk
          unfold sm at this
          unfold Hid
          by_cases c : hwD f x k = true
          · exact c
          · rw [if_neg c] at this; cases this
        simp only [ik] at hrun hen
        clear rg rg2 hv f2 z2 OW
        clear hk
        go_wp2_with (first
          | (at_builtin; refine wp_appI rfl rfl (v := v) rfl (OW2.out.fr ((Fr.refl (fun _ => False) _).alloc _) (fun _ _ h => h)) rfl (y := k) (At.new w2 #[.int .i64 k] _ rfl).c (by omega) (by simp; omega) ?_; intro g cap w3 ow3 f3 hg3 hl3; go_frame)
          | go_in)
        have fA := (Fr.refl (fun _ => False) w2).alloc (.cells #[.int .i64 k] 3)
        have f03 : Fr (fun _ => False) w w3 := (FR2.out.trans fA).then f3 (fun i hi e => by have := (OW2.out.lt e).1; have := HRB.out; omega)
        have RG3 := (RG2.out.fr fA (fun h => h) (fun h => h)).fr f3 (fun e => by have := (OW2.out.lt e).1; have := MS.out.lt; have := HRB.out; omega) (fun e => by have := (OW2.out.lt e).1; omega)
        refine ⟨⟨left.filter (· ≠ k), S ++ [k], RG3, by simpa using ow3, ?_, fun y => ?_, f03, by have := fA.size; have := f3.size; omega⟩, ?_⟩
        · rw [List.nodup_append]
          refine ⟨ND.out, by simp, ?_⟩
          intro a ha b hb e
          simp at hb
          subst hb
          rw [e] at ha
          exact ((ME.out b).1 ha).2 HK.out
        · rw [List.mem_append, ME.out y, List.mem_filter]
          by_cases e : y = k
          · subst e; simp [HF.out]
          · simp [e]
        · rw [RG3.left_eq, RG.out.left_eq]; exact filter_lt HK.out

end Go.Proofs.Qxb6500450aGreat
