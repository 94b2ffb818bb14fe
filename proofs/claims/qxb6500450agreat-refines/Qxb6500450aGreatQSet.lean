/- Sets of ids as maps that live for one call: both, either, without, sorted. -/
import Derived.Test.Qxb6500450aGreatIShow
import Derived.Test.Qxb6500450aGreatIDrop2
import Derived.Lib.MinMax
namespace Go.Proofs.Qxb6500450aGreat
open Go Go.RowKit
set_option maxRecDepth 100000
set_option maxHeartbeats 1600000
set_option linter.unusedSimpArgs false
set_option linter.unusedVariables false

theorem uQSet : Tryz.prog.underlying 86 = some (.map 3 4) := by kernel_rfl
theorem mkQ (n : Int) (w : World) : (Instr.makeMap 86 (some (.int .i64 n))).run Tryz.prog w = .ok (.map (some w.heap.size)) (w.alloc (.map #[] 0)) := by kernel_rfl
theorem nilQ (b : Nat) (w : World) : (binOp BinOp.eql 86 (.map (some b)) (.map none)).run Tryz.prog w = .ok (.bool false) w := by kernel_rfl
theorem nilQ0 (w : World) : (binOp BinOp.eql 86 (.map none) (.map none)).run Tryz.prog w = .ok (.bool true) w := by kernel_rfl
theorem rangeQ_nil (W : World) : (Instr.range 86 (.map none)).run Tryz.prog W = .ok (.pointer (some ⟨W.heap.size, 0, none⟩)) (W.alloc (.mapIter none 0 #[] 0)) := by kernel_rfl

theorem sm_put (d : Int → Bool) (i : Int) : updF (sm d) i (some (.bool true)) = sm (fun j => d j || decide (j = i)) := by
  funext j
  unfold updF sm
  by_cases h : j = i <;> simp [h]
theorem sm_cut (d : Int → Bool) (i : Int) : updF (sm d) i none = sm (fun j => d j && !decide (j = i)) := by
  funext j
  unfold updF sm
  by_cases h : j = i <;> simp [h]
theorem sm_get (d : Int → Bool) (i : Int) : (sm d i).getD (.bool false) = .bool (d i) := by
  unfold sm
  cases d i <;> rfl
theorem sm_some (d : Int → Bool) (i : Int) : (sm d i).isSome = d i := by
  unfold sm
  cases d i <;> rfl
theorem sm_no : (fun _ => none) = sm (fun _ => false) := by funext i; rfl

/-- v is the set d: the nil map if it is empty, or a map beyond base. -/
def SetV (w : World) (base : Nat) (v : Value) (d : Int → Bool) : Prop := (v = .map none ∧ ∀ i, d i = false) ∨ ∃ b n, v = .map (some b) ∧ base ≤ b ∧ MapF ik w b (sm d) n

theorem both_any {w : World} {bA bB nA nB : Nat} {da db : Int → Bool} (ha : MapF ik w bA (sm da) nA) (hb : MapF ik w bB (sm db) nB) :
    Calls Tryz.prog 50 #[.map (some bA), .map (some bB)] w fun e w' => ∃ v, e = .returned v ∧ SetV w' w.heap.size v (fun i => da i && db i) ∧ Fr (fun _ => False) w w' := by
  have HA := hid ha
  have HB := hid hb
  have l1 := ha.len (P := Tryz.prog) (ty := 3) uQSet
  have l2 := hb.len (P := Tryz.prog) (ty := 3) uQSet
  clear ha hb
  by_cases hc : nB < nA
  · have hcI : (nB : Int) < (nA : Int) := by omega
    go_enter Tryz.func50, Tryz.ntmps50
    go_upto_region 4 with fail
    go_wp2_with (first
      | (at_range; refine wp_range rfl rfl uQSet HB.out rfl ?_; intro w1 left0 rg1 ln1 lm1 f1 z1; go_frame)
      | go_in)
    obtain ⟨rb, hrb⟩ : ∃ rb, rb = w.heap.size := ⟨_, rfl⟩
    rw [← hrb] at rg1 z1 ⊢
    have HRB := hid hrb
    have L1 : Hid (∀ k, k ∈ left0 ↔ db k = true) := fun k => by rw [lm1 k, sm_some]
    clear hrb ln1 lm1 l1 l2
    go_loopw [5] (fun v wr => ∃ left, Ranges ik wr bB rb (sm db) left ∧ SetV wr (rb + 1) v (fun i => db i && da i && !decide (i ∈ left)) ∧ Fr (fun _ => False) w wr ∧ rb + 1 ≤ wr.heap.size) (fun _ wr => wr.rangeLeft bB rb)
    case atStart => exact ⟨left0, rg1, .inl ⟨rfl, fun i => by have := L1.out i; by_cases c : db i = true <;> simp [c, this]⟩, f1, by omega⟩
    case round =>
      obtain ⟨left, rg, sv, fr, hsz⟩ := hrel
      have RG := hid rg
      have SV := hid sv
      have FR := hid fr
      have hrS := rg.ne
      have HQ2 := hid (HA.out.fr fr (fun h => h))
      clear sv fr
      generalize u5 = v at *
      rcases rg.next (P := Tryz.prog) 0 with ⟨hnil, hrun⟩ | ⟨k, vv, w2, hk, hv, hrun, hen, rg2, f2, z2⟩
      · clear rg
        subst hnil
        have HSV : Hid (SetV wr w.heap.size v (fun i => da i && db i)) := by
          have := SV.out
          have e : (fun i => db i && da i && !decide (i ∈ ([] : List Int))) = (fun i => da i && db i) := by funext i; simp [Bool.and_comm]
          rw [e] at this
          rcases this with h | ⟨b, n, h1, h2, h3⟩
          · exact .inl h
          · exact .inr ⟨b, n, h1, by have := HRB.out; omega, h3⟩
        go_wp2_with fail
        go_ret
        exact ⟨_, rfl, HSV.out, FR.out⟩
      · have hvv : vv = .bool true := by
          unfold sm at hv
          split at hv
          · cases hv; rfl
          · cases hv
        subst hvv
        have RG2 := hid rg2
        have HK := hid hk
        have hdk : db k = true := by have := rg.here hk; rw [sm_some] at this; exact this
        have HDK := hid hdk
        have HRL := hid rg.left_eq
        have F2 : Hid (Fr (fun j => j = rb) wr w2) := f2
        have HQ3 := hid (HQ2.out.fr f2 (fun e => by have := HQ2.out.lt; have := HA.out.lt; have := HRB.out; omega))
        have FR2 := hid (FR.out.then f2 (fun i hi e => by have := HRB.out; omega))
        have SV2 : Hid (SetV w2 (rb + 1) v (fun i => db i && da i && !decide (i ∈ left))) := by
          rcases SV.out with h | ⟨b, n, h1, h2, h3⟩
          · exact .inl h
          · exact .inr ⟨b, n, h1, h2, h3.fr f2 (fun e => by omega)⟩
        have hz2 : rb + 1 ≤ w2.heap.size := by omega
        have hlk := HQ3.out.lookup kInt uQSet (zBool w2) k false
        rw [sm_get] at hlk
        have hlk' : (Instr.lookup 86 (.map (some bA)) (.int .i64 k) false).run Tryz.prog w2 = .ok (.bool (da k)) w2 := hlk
        simp only [ik] at hrun hen
        clear rg rg2 hv f2 z2 hk hlk hdk SV
        rcases hq : da k with _ | _
        · rw [hq] at hlk'
          have HE : Hid ((fun i => db i && da i && !decide (i ∈ left)) = (fun i => db i && da i && !decide (i ∈ left.filter (· ≠ k)))) := by
            funext i
            by_cases e : i = k
            · subst e; simp [hq]
            · simp [e]
          rw [HE.out] at SV2
          clear hq
          go_wp2_with fail
          exact ⟨⟨left.filter (· ≠ k), RG2.out, SV2.out, FR2.out, hz2⟩, by rw [RG2.out.left_eq, HRL.out]; exact filter_lt HK.out⟩
        · rw [hq] at hlk'
          have HE : Hid ((fun j => (db j && da j && !decide (j ∈ left)) || decide (j = k)) = (fun i => db i && da i && !decide (i ∈ left.filter (· ≠ k)))) := by
            funext i
            by_cases e : i = k
            · subst e; simp [hq, HDK.out]
            · simp [e]
          clear hq
          have m2 := @run_makeMap Tryz.prog
          have n1 := nilQ
          have n2 := nilQ0
          rcases SV2.out with ⟨rfl, hno⟩ | ⟨bo, no, rfl, hbo, mo⟩
          · have M0 := hid (MapF.new ik w2)
            rw [sm_no] at M0
            have F0 := hid ((Fr.refl (fun _ => False) w2).alloc (.map #[] 0))
            have Z0 : Hid ((w2.alloc (.map #[] 0)).heap.size = w2.heap.size + 1) := by simp [Hid]
            have HE0 : Hid (sm (fun j => false || decide (j = k)) = sm (fun i => db i && da i && !decide (i ∈ left.filter (· ≠ k)))) := by
              rw [← HE.out]
              unfold Hid
              congr 1
              funext j
              have hj := hno j
              simp only at hj
              rw [hj]
            clear hno SV2
            go_upto_region 10 with fail
            generalize w2.alloc (.map #[] 0) = w3 at *
            obtain ⟨bo, hbo⟩ : ∃ bo, bo = w2.heap.size := ⟨_, rfl⟩
            rw [← hbo] at M0 Z0 ⊢
            have HBO := hid hbo
            clear hbo m2 n1 n2
            go_wp2_with (first
              | (at_mapUpdate; refine wp_upd rfl rfl kInt uQSet M0.out rfl (k := k) rfl (u := .bool true) rfl ?_; intro w4 hm4 hf4 hs4; go_frame)
              | go_in)
            rw [sm_put, HE0.out] at hm4
            have hbo := HBO.out
            have hz := Z0.out
            have f24 : Fr (fun j => j = bo) w2 w4 := (F0.out.mono (fun _ _ h => h.elim)).trans hf4
            have r4 := RG2.out.fr f24 (fun e => by have := RG2.out.lt.1; omega) (fun e => by omega)
            exact ⟨⟨left.filter (· ≠ k), r4, .inr ⟨bo, _, rfl, by omega, hm4⟩, FR2.out.then f24 (fun i hi e => by have := HRB.out; omega), by omega⟩, by rw [r4.left_eq, HRL.out]; exact filter_lt HK.out⟩
          · have MO := hid mo
            clear mo SV2 m2
            go_wp2_with (first
              | (at_mapUpdate; refine wp_upd rfl rfl kInt uQSet MO.out rfl (k := k) rfl (u := .bool true) rfl ?_; intro w4 hm4 hf4 hs4; go_frame)
              | go_in)
            rw [sm_put, HE.out] at hm4
            have hne : bB ≠ bo := fun e => by have := HB.out.lt; have := HRB.out; omega
            have r4 := RG2.out.fr hf4 (fun e => hne e) (fun e => by omega)
            exact ⟨⟨left.filter (· ≠ k), r4, .inr ⟨bo, _, rfl, hbo, hm4⟩, FR2.out.then hf4 (fun i hi e => by have := HRB.out; omega), by omega⟩, by rw [r4.left_eq, HRL.out]; exact filter_lt HK.out⟩
  · have hcI : ¬ (nB : Int) < (nA : Int) := by omega
    go_enter Tryz.func50, Tryz.ntmps50
    go_upto_region 4 with fail
    go_wp2_with (first
      | (at_range; refine wp_range rfl rfl uQSet HA.out rfl ?_; intro w1 left0 rg1 ln1 lm1 f1 z1; go_frame)
      | go_in)
    obtain ⟨rb, hrb⟩ : ∃ rb, rb = w.heap.size := ⟨_, rfl⟩
    rw [← hrb] at rg1 z1 ⊢
    have HRB := hid hrb
    have L1 : Hid (∀ k, k ∈ left0 ↔ da k = true) := fun k => by rw [lm1 k, sm_some]
    clear hrb ln1 lm1 l1 l2
    go_loopw [5] (fun v wr => ∃ left, Ranges ik wr bA rb (sm da) left ∧ SetV wr (rb + 1) v (fun i => da i && db i && !decide (i ∈ left)) ∧ Fr (fun _ => False) w wr ∧ rb + 1 ≤ wr.heap.size) (fun _ wr => wr.rangeLeft bA rb)
    case atStart => exact ⟨left0, rg1, .inl ⟨rfl, fun i => by have := L1.out i; by_cases c : da i = true <;> simp [c, this]⟩, f1, by omega⟩
    case round =>
      obtain ⟨left, rg, sv, fr, hsz⟩ := hrel
      have RG := hid rg
      have SV := hid sv
      have FR := hid fr
      have hrS := rg.ne
      have HQ2 := hid (HB.out.fr fr (fun h => h))
      clear sv fr
      generalize u5 = v at *
      rcases rg.next (P := Tryz.prog) 0 with ⟨hnil, hrun⟩ | ⟨k, vv, w2, hk, hv, hrun, hen, rg2, f2, z2⟩
      · clear rg
        subst hnil
        have HSV : Hid (SetV wr w.heap.size v (fun i => da i && db i)) := by
          have := SV.out
          have e : (fun i => da i && db i && !decide (i ∈ ([] : List Int))) = (fun i => da i && db i) := by funext i; simp [Bool.and_comm]
          rw [e] at this
          rcases this with h | ⟨b, n, h1, h2, h3⟩
          · exact .inl h
          · exact .inr ⟨b, n, h1, by have := HRB.out; omega, h3⟩
        go_wp2_with fail
        go_ret
        exact ⟨_, rfl, HSV.out, FR.out⟩
      · have hvv : vv = .bool true := by
          unfold sm at hv
          split at hv
          · cases hv; rfl
          · cases hv
        subst hvv
        have RG2 := hid rg2
        have HK := hid hk
        have hdk : da k = true := by have := rg.here hk; rw [sm_some] at this; exact this
        have HDK := hid hdk
        have HRL := hid rg.left_eq
        have F2 : Hid (Fr (fun j => j = rb) wr w2) := f2
        have HQ3 := hid (HQ2.out.fr f2 (fun e => by have := HQ2.out.lt; have := HB.out.lt; have := HRB.out; omega))
        have FR2 := hid (FR.out.then f2 (fun i hi e => by have := HRB.out; omega))
        have SV2 : Hid (SetV w2 (rb + 1) v (fun i => da i && db i && !decide (i ∈ left))) := by
          rcases SV.out with h | ⟨b, n, h1, h2, h3⟩
          · exact .inl h
          · exact .inr ⟨b, n, h1, h2, h3.fr f2 (fun e => by omega)⟩
        have hz2 : rb + 1 ≤ w2.heap.size := by omega
        have hlk := HQ3.out.lookup kInt uQSet (zBool w2) k false
        rw [sm_get] at hlk
        have hlk' : (Instr.lookup 86 (.map (some bB)) (.int .i64 k) false).run Tryz.prog w2 = .ok (.bool (db k)) w2 := hlk
        simp only [ik] at hrun hen
        clear rg rg2 hv f2 z2 hk hlk hdk SV
        rcases hq : db k with _ | _
        · rw [hq] at hlk'
          have HE : Hid ((fun i => da i && db i && !decide (i ∈ left)) = (fun i => da i && db i && !decide (i ∈ left.filter (· ≠ k)))) := by
            funext i
            by_cases e : i = k
            · subst e; simp [hq]
            · simp [e]
          rw [HE.out] at SV2
          clear hq
          go_wp2_with fail
          exact ⟨⟨left.filter (· ≠ k), RG2.out, SV2.out, FR2.out, hz2⟩, by rw [RG2.out.left_eq, HRL.out]; exact filter_lt HK.out⟩
        · rw [hq] at hlk'
          have HE : Hid ((fun j => (da j && db j && !decide (j ∈ left)) || decide (j = k)) = (fun i => da i && db i && !decide (i ∈ left.filter (· ≠ k)))) := by
            funext i
            by_cases e : i = k
            · subst e; simp [hq, HDK.out]
            · simp [e]
          clear hq
          have m2 := @run_makeMap Tryz.prog
          have n1 := nilQ
          have n2 := nilQ0
          rcases SV2.out with ⟨rfl, hno⟩ | ⟨bo, no, rfl, hbo, mo⟩
          · have M0 := hid (MapF.new ik w2)
            rw [sm_no] at M0
            have F0 := hid ((Fr.refl (fun _ => False) w2).alloc (.map #[] 0))
            have Z0 : Hid ((w2.alloc (.map #[] 0)).heap.size = w2.heap.size + 1) := by simp [Hid]
            have HE0 : Hid (sm (fun j => false || decide (j = k)) = sm (fun i => da i && db i && !decide (i ∈ left.filter (· ≠ k)))) := by
              rw [← HE.out]
              unfold Hid
              congr 1
              funext j
              have hj := hno j
              simp only at hj
              rw [hj]
            clear hno SV2
            go_upto_region 10 with fail
            generalize w2.alloc (.map #[] 0) = w3 at *
            obtain ⟨bo, hbo⟩ : ∃ bo, bo = w2.heap.size := ⟨_, rfl⟩
            rw [← hbo] at M0 Z0 ⊢
            have HBO := hid hbo
            clear hbo m2 n1 n2
            go_wp2_with (first
              | (at_mapUpdate; refine wp_upd rfl rfl kInt uQSet M0.out rfl (k := k) rfl (u := .bool true) rfl ?_; intro w4 hm4 hf4 hs4; go_frame)
              | go_in)
            rw [sm_put, HE0.out] at hm4
            have hbo := HBO.out
            have hz := Z0.out
            have f24 : Fr (fun j => j = bo) w2 w4 := (F0.out.mono (fun _ _ h => h.elim)).trans hf4
            have r4 := RG2.out.fr f24 (fun e => by have := RG2.out.lt.1; omega) (fun e => by omega)
            exact ⟨⟨left.filter (· ≠ k), r4, .inr ⟨bo, _, rfl, by omega, hm4⟩, FR2.out.then f24 (fun i hi e => by have := HRB.out; omega), by omega⟩, by rw [r4.left_eq, HRL.out]; exact filter_lt HK.out⟩
          · have MO := hid mo
            clear mo SV2 m2
            go_wp2_with (first
              | (at_mapUpdate; refine wp_upd rfl rfl kInt uQSet MO.out rfl (k := k) rfl (u := .bool true) rfl ?_; intro w4 hm4 hf4 hs4; go_frame)
              | go_in)
            rw [sm_put, HE.out] at hm4
            have hne : bA ≠ bo := fun e => by have := HA.out.lt; have := HRB.out; omega
            have r4 := RG2.out.fr hf4 (fun e => hne e) (fun e => by omega)
            exact ⟨⟨left.filter (· ≠ k), r4, .inr ⟨bo, _, rfl, hbo, hm4⟩, FR2.out.then hf4 (fun i hi e => by have := HRB.out; omega), by omega⟩, by rw [r4.left_eq, HRL.out]; exact filter_lt HK.out⟩

theorem either_any {w : World} {bA bB nA nB : Nat} {da db : Int → Bool} (ha : MapF ik w bA (sm da) nA) (hb : MapF ik w bB (sm db) nB) :
    Calls Tryz.prog 51 #[.map (some bA), .map (some bB)] w fun e w' => ∃ v, e = .returned v ∧ SetV w' w.heap.size v (fun i => da i || db i) ∧ Fr (fun _ => False) w w' := by
  have HA := hid ha
  have HB := hid hb
  have l1 := ha.len (P := Tryz.prog) (ty := 3) uQSet
  have l2 := hb.len (P := Tryz.prog) (ty := 3) uQSet
  have m1 := mkQ
  clear ha hb
  have MS1 := hid (MapF.new ik w)
  rw [sm_no] at MS1
  have FS1 := hid ((Fr.refl (fun _ => False) w).alloc (.map #[] 0))
  have Z0 : Hid ((w.alloc (.map #[] 0)).heap.size = w.heap.size + 1) := by simp [Hid]
  go_enter Tryz.func51, Tryz.ntmps51
  go_upto_region 2 with fail
  generalize w.alloc (.map #[] 0) = w0 at *
  obtain ⟨bo, hbo⟩ : ∃ bo, bo = w.heap.size := ⟨_, rfl⟩
  rw [← hbo] at MS1 Z0 ⊢
  have HBO := hid hbo
  clear hbo m1 l1 l2
  go_wp2_with (first
    | (at_range; refine wp_range rfl rfl uQSet (HA.out.fr FS1.out (fun h => h)) rfl ?_; intro w11 left0 rg1 ln1 lm1 f1 z1; go_frame)
    | go_in)
  obtain ⟨rb1, hrb⟩ : ∃ rb, rb = w0.heap.size := ⟨_, rfl⟩
  rw [← hrb] at rg1 z1 ⊢
  have HRB1 := hid hrb
  have HRW1 : Hid (w.heap.size < rb1 ∧ bo < rb1) := ⟨by have := HBO.out; have := MS1.out.lt; omega, by have := MS1.out.lt; omega⟩
  have L1 : Hid (∀ k, k ∈ left0 ↔ da k = true) := fun k => by rw [lm1 k, sm_some]
  have M11 := hid (MS1.out.fr f1 (fun h => h))
  have F11 := hid (FS1.out.trans f1)
  clear hrb ln1 lm1 f1
  go_loopw [] (fun wr => ∃ left n, Ranges ik wr bA rb1 (sm da) left ∧ MapF ik wr bo (sm (fun i => (fun _ => false) i || (da i && !decide (i ∈ left)))) n ∧ Fr (fun _ => False) w wr ∧ rb1 + 1 ≤ wr.heap.size) (fun wr => wr.rangeLeft bA rb1)
  case atStart =>
    have e : (fun i => (fun _ => false) i || (da i && !decide (i ∈ left0))) = (fun _ => false) := by
      funext i
      have := L1.out i
      by_cases c : da i = true
      · have c' := this.2 c; simp [c, c']
      · simp [c]
    exact ⟨left0, _, rg1, by rw [e]; exact M11.out, F11.out, by omega⟩
  case round =>
    clear L1
    obtain ⟨left, n, rg, mo, fr, hsz⟩ := hrel
    have RG := hid rg
    have MR' := hid mo
    have FR := hid fr
    clear mo fr
    rcases rg.next (P := Tryz.prog) 0 with ⟨hnil, hrun⟩ | ⟨k, vv, w2, hk, hv, hrun, hen, rg2, f2, z2⟩
    · clear rg
      subst hnil
      have e : (fun i => (fun _ => false) i || (da i && !decide (i ∈ ([] : List Int)))) = (fun i => (fun _ => false) i || da i) := by funext i; simp
      rw [e] at MR'
      clear e
      have MS2 := hid MR'.out
      have FS2 := hid FR.out
      clear RG MR' FR
      go_upto_region 6 with fail
      clear hrun
      go_wp2_with (first
        | (at_range; refine wp_range rfl rfl uQSet (HB.out.fr FS2.out (fun h => h)) rfl ?_; intro w12 left0 rg1 ln1 lm1 f1 z1; go_frame)
        | go_in)
      obtain ⟨rb2, hrb⟩ : ∃ rb, rb = wr.heap.size := ⟨_, rfl⟩
      rw [← hrb] at rg1 z1 ⊢
      have HRB2 := hid hrb
      have HRW2 : Hid (w.heap.size < rb2 ∧ bo < rb2) := ⟨by have := HBO.out; have := MS2.out.lt; omega, by have := MS2.out.lt; omega⟩
      have L1 : Hid (∀ k, k ∈ left0 ↔ db k = true) := fun k => by rw [lm1 k, sm_some]
      have M12 := hid (MS2.out.fr f1 (fun h => h))
      have F12 := hid (FS2.out.trans f1)
      clear hrb ln1 lm1 f1
      go_loopw [] (fun wr => ∃ left n, Ranges ik wr bB rb2 (sm db) left ∧ MapF ik wr bo (sm (fun i => (fun i => (fun _ => false) i || da i) i || (db i && !decide (i ∈ left)))) n ∧ Fr (fun _ => False) w wr ∧ rb2 + 1 ≤ wr.heap.size) (fun wr => wr.rangeLeft bB rb2)
      case atStart =>
        have e : (fun i => (fun i => (fun _ => false) i || da i) i || (db i && !decide (i ∈ left0))) = (fun i => (fun _ => false) i || da i) := by
          funext i
          have := L1.out i
          by_cases c : db i = true
          · have c' := this.2 c; simp [c, c']
          · simp [c]
        exact ⟨left0, _, rg1, by rw [e]; exact M12.out, F12.out, by omega⟩
      case round =>
        clear L1
        obtain ⟨left, n, rg, mo, fr, hsz⟩ := hrel
        have RG := hid rg
        have MR' := hid mo
        have FR := hid fr
        clear mo fr
        rcases rg.next (P := Tryz.prog) 0 with ⟨hnil, hrun⟩ | ⟨k, vv, w2, hk, hv, hrun, hen, rg2, f2, z2⟩
        · clear rg
          subst hnil
          have e : (fun i => (fun i => (fun _ => false) i || da i) i || (db i && !decide (i ∈ ([] : List Int)))) = (fun i => (fun i => (fun _ => false) i || da i) i || db i) := by funext i; simp
          rw [e] at MR'
          clear e
          go_wp2_with fail
          go_ret
          exact ⟨_, rfl, .inr ⟨bo, _, rfl, by have := HBO.out; omega, MR'.out⟩, FR.out⟩
        · have hvv : vv = .bool true := by
            unfold sm at hv
            split at hv
            · cases hv; rfl
            · cases hv
          subst hvv
          have RG2 := hid rg2
          have HK := hid hk
          have hdk : db k = true := by have := rg.here hk; rw [sm_some] at this; exact this
          have HDK := hid hdk
          have HRL := hid rg.left_eq
          have MO := hid (MR'.out.fr f2 (fun e => by have := HRW2.out; omega))
          have FR2 := hid (FR.out.then f2 (fun i hi e => by have := HRW2.out; omega))
          have hz2 : rb2 + 1 ≤ w2.heap.size := by omega
          have HE : Hid ((fun j => ((fun i => (fun _ => false) i || da i) j || (db j && !decide (j ∈ left))) || decide (j = k)) = (fun i => (fun i => (fun _ => false) i || da i) i || (db i && !decide (i ∈ left.filter (· ≠ k))))) := by
            funext i
            by_cases e : i = k
            · subst e; simp [HDK.out]
            · simp [e]
          simp only [ik] at hrun hen
          clear rg rg2 hv f2 z2 hk hdk MR'
          go_wp2_with (first
            | (at_mapUpdate; refine wp_upd rfl rfl kInt uQSet MO.out rfl (k := k) rfl (u := .bool true) rfl ?_; intro w4 hm4 hf4 hs4; go_frame)
            | go_in)
          rw [sm_put, HE.out] at hm4
          have hne : bB ≠ bo := fun e => by have := HB.out.lt; have := HBO.out; omega
          have r4 := RG2.out.fr hf4 (fun e => hne e) (fun e => by have := HRW2.out; omega)
          exact ⟨⟨left.filter (· ≠ k), _, r4, hm4, FR2.out.then hf4 (fun i hi e => by have := HBO.out; omega), by omega⟩, by rw [r4.left_eq, HRL.out]; exact filter_lt HK.out⟩
    · have hvv : vv = .bool true := by
        unfold sm at hv
        split at hv
        · cases hv; rfl
        · cases hv
      subst hvv
      have RG2 := hid rg2
      have HK := hid hk
      have hdk : da k = true := by have := rg.here hk; rw [sm_some] at this; exact this
      have HDK := hid hdk
      have HRL := hid rg.left_eq
      have MO := hid (MR'.out.fr f2 (fun e => by have := HRW1.out; omega))
      have FR2 := hid (FR.out.then f2 (fun i hi e => by have := HRW1.out; omega))
      have hz2 : rb1 + 1 ≤ w2.heap.size := by omega
      have HE : Hid ((fun j => ((fun _ => false) j || (da j && !decide (j ∈ left))) || decide (j = k)) = (fun i => (fun _ => false) i || (da i && !decide (i ∈ left.filter (· ≠ k))))) := by
        funext i
        by_cases e : i = k
        · subst e; simp [HDK.out]
        · simp [e]
      simp only [ik] at hrun hen
      clear rg rg2 hv f2 z2 hk hdk MR'
      go_wp2_with (first
        | (at_mapUpdate; refine wp_upd rfl rfl kInt uQSet MO.out rfl (k := k) rfl (u := .bool true) rfl ?_; intro w4 hm4 hf4 hs4; go_frame)
        | go_in)
      rw [sm_put, HE.out] at hm4
      have hne : bA ≠ bo := fun e => by have := HA.out.lt; have := HBO.out; omega
      have r4 := RG2.out.fr hf4 (fun e => hne e) (fun e => by have := HRW1.out; omega)
      exact ⟨⟨left.filter (· ≠ k), _, r4, hm4, FR2.out.then hf4 (fun i hi e => by have := HBO.out; omega), by omega⟩, by rw [r4.left_eq, HRL.out]; exact filter_lt HK.out⟩

theorem without_any {w : World} {bA bB nA nB : Nat} {da db : Int → Bool} (ha : MapF ik w bA (sm da) nA) (hb : MapF ik w bB (sm db) nB) :
    Calls Tryz.prog 52 #[.map (some bA), .map (some bB)] w fun e w' => ∃ v, e = .returned v ∧ SetV w' w.heap.size v (fun i => da i && !db i) ∧ Fr (fun _ => False) w w' := by
  have HA := hid ha
  have HB := hid hb
  have l1 := ha.len (P := Tryz.prog) (ty := 3) uQSet
  have l2 := hb.len (P := Tryz.prog) (ty := 3) uQSet
  have m1 := mkQ
  clear ha hb
  have MS1 := hid (MapF.new ik w)
  rw [sm_no] at MS1
  have FS1 := hid ((Fr.refl (fun _ => False) w).alloc (.map #[] 0))
  have Z0 : Hid ((w.alloc (.map #[] 0)).heap.size = w.heap.size + 1) := by simp [Hid]
  go_enter Tryz.func52, Tryz.ntmps52
  go_upto_region 2 with fail
  generalize w.alloc (.map #[] 0) = w0 at *
  obtain ⟨bo, hbo⟩ : ∃ bo, bo = w.heap.size := ⟨_, rfl⟩
  rw [← hbo] at MS1 Z0 ⊢
  have HBO := hid hbo
  clear hbo m1 l1 l2
  go_wp2_with (first
    | (at_range; refine wp_range rfl rfl uQSet (HA.out.fr FS1.out (fun h => h)) rfl ?_; intro w11 left0 rg1 ln1 lm1 f1 z1; go_frame)
    | go_in)
  obtain ⟨rb1, hrb⟩ : ∃ rb, rb = w0.heap.size := ⟨_, rfl⟩
  rw [← hrb] at rg1 z1 ⊢
  have HRB1 := hid hrb
  have HRW1 : Hid (w.heap.size < rb1 ∧ bo < rb1) := ⟨by have := HBO.out; have := MS1.out.lt; omega, by have := MS1.out.lt; omega⟩
  have L1 : Hid (∀ k, k ∈ left0 ↔ da k = true) := fun k => by rw [lm1 k, sm_some]
  have M11 := hid (MS1.out.fr f1 (fun h => h))
  have F11 := hid (FS1.out.trans f1)
  clear hrb ln1 lm1 f1
  go_loopw [] (fun wr => ∃ left n, Ranges ik wr bA rb1 (sm da) left ∧ MapF ik wr bo (sm (fun i => (fun _ => false) i || (da i && !decide (i ∈ left)))) n ∧ Fr (fun _ => False) w wr ∧ rb1 + 1 ≤ wr.heap.size) (fun wr => wr.rangeLeft bA rb1)
  case atStart =>
    have e : (fun i => (fun _ => false) i || (da i && !decide (i ∈ left0))) = (fun _ => false) := by
      funext i
      have := L1.out i
      by_cases c : da i = true
      · have c' := this.2 c; simp [c, c']
      · simp [c]
    exact ⟨left0, _, rg1, by rw [e]; exact M11.out, F11.out, by omega⟩
  case round =>
    clear L1
    obtain ⟨left, n, rg, mo, fr, hsz⟩ := hrel
    have RG := hid rg
    have MR' := hid mo
    have FR := hid fr
    clear mo fr
    rcases rg.next (P := Tryz.prog) 0 with ⟨hnil, hrun⟩ | ⟨k, vv, w2, hk, hv, hrun, hen, rg2, f2, z2⟩
    · clear rg
      subst hnil
      have e : (fun i => (fun _ => false) i || (da i && !decide (i ∈ ([] : List Int)))) = (fun i => (fun _ => false) i || da i) := by funext i; simp
      rw [e] at MR'
      clear e
      have MS2 := hid MR'.out
      have FS2 := hid FR.out
      clear RG MR' FR
      go_upto_region 6 with fail
      clear hrun
      go_wp2_with (first
        | (at_range; refine wp_range rfl rfl uQSet (HB.out.fr FS2.out (fun h => h)) rfl ?_; intro w12 left0 rg1 ln1 lm1 f1 z1; go_frame)
        | go_in)
      obtain ⟨rb2, hrb⟩ : ∃ rb, rb = wr.heap.size := ⟨_, rfl⟩
      rw [← hrb] at rg1 z1 ⊢
      have HRB2 := hid hrb
      have HRW2 : Hid (w.heap.size < rb2 ∧ bo < rb2) := ⟨by have := HBO.out; have := MS2.out.lt; omega, by have := MS2.out.lt; omega⟩
      have L1 : Hid (∀ k, k ∈ left0 ↔ db k = true) := fun k => by rw [lm1 k, sm_some]
      have M12 := hid (MS2.out.fr f1 (fun h => h))
      have F12 := hid (FS2.out.trans f1)
      clear hrb ln1 lm1 f1
      go_loopw [] (fun wr => ∃ left n, Ranges ik wr bB rb2 (sm db) left ∧ MapF ik wr bo (sm (fun i => (fun i => (fun _ => false) i || da i) i && !(db i && !decide (i ∈ left)))) n ∧ Fr (fun _ => False) w wr ∧ rb2 + 1 ≤ wr.heap.size) (fun wr => wr.rangeLeft bB rb2)
      case atStart =>
        have e : (fun i => (fun i => (fun _ => false) i || da i) i && !(db i && !decide (i ∈ left0))) = (fun i => (fun _ => false) i || da i) := by
          funext i
          have := L1.out i
          by_cases c : db i = true
          · have c' := this.2 c; simp [c, c']
          · simp [c]
        exact ⟨left0, _, rg1, by rw [e]; exact M12.out, F12.out, by omega⟩
      case round =>
        clear L1
        obtain ⟨left, n, rg, mo, fr, hsz⟩ := hrel
        have RG := hid rg
        have MR' := hid mo
        have FR := hid fr
        clear mo fr
        rcases rg.next (P := Tryz.prog) 0 with ⟨hnil, hrun⟩ | ⟨k, vv, w2, hk, hv, hrun, hen, rg2, f2, z2⟩
        · clear rg
          subst hnil
          have e : (fun i => (fun i => (fun _ => false) i || da i) i && !(db i && !decide (i ∈ ([] : List Int)))) = (fun i => (fun i => (fun _ => false) i || da i) i && !db i) := by funext i; simp
          rw [e] at MR'
          clear e
          go_wp2_with fail
          go_ret
          exact ⟨_, rfl, .inr ⟨bo, _, rfl, by have := HBO.out; omega, MR'.out⟩, FR.out⟩
        · have hvv : vv = .bool true := by
            unfold sm at hv
            split at hv
            · cases hv; rfl
            · cases hv
          subst hvv
          have RG2 := hid rg2
          have HK := hid hk
          have hdk : db k = true := by have := rg.here hk; rw [sm_some] at this; exact this
          have HDK := hid hdk
          have HRL := hid rg.left_eq
          have MO := hid (MR'.out.fr f2 (fun e => by have := HRW2.out; omega))
          have FR2 := hid (FR.out.then f2 (fun i hi e => by have := HRW2.out; omega))
          have hz2 : rb2 + 1 ≤ w2.heap.size := by omega
          have HE : Hid ((fun j => ((fun i => (fun _ => false) i || da i) j && !(db j && !decide (j ∈ left))) && !decide (j = k)) = (fun i => (fun i => (fun _ => false) i || da i) i && !(db i && !decide (i ∈ left.filter (· ≠ k))))) := by
            funext i
            by_cases e : i = k
            · subst e; simp [HDK.out]
            · simp [e]
          simp only [ik] at hrun hen
          clear rg rg2 hv f2 z2 hk hdk MR'
          go_wp2_with (first
            | (at_delete; refine wp_del rfl rfl kInt uQSet MO.out rfl (k := k) rfl ?_; intro w4 hm4 hf4 hs4; go_frame)
            | go_in)
          rw [sm_cut, HE.out] at hm4
          have hne : bB ≠ bo := fun e => by have := HB.out.lt; have := HBO.out; omega
          have r4 := RG2.out.fr hf4 (fun e => hne e) (fun e => by have := HRW2.out; omega)
          exact ⟨⟨left.filter (· ≠ k), _, r4, hm4, FR2.out.then hf4 (fun i hi e => by have := HBO.out; omega), by omega⟩, by rw [r4.left_eq, HRL.out]; exact filter_lt HK.out⟩
    · have hvv : vv = .bool true := by
        unfold sm at hv
        split at hv
        · cases hv; rfl
        · cases hv
      subst hvv
      have RG2 := hid rg2
      have HK := hid hk
      have hdk : da k = true := by have := rg.here hk; rw [sm_some] at this; exact this
      have HDK := hid hdk
      have HRL := hid rg.left_eq
      have MO := hid (MR'.out.fr f2 (fun e => by have := HRW1.out; omega))
      have FR2 := hid (FR.out.then f2 (fun i hi e => by have := HRW1.out; omega))
      have hz2 : rb1 + 1 ≤ w2.heap.size := by omega
      have HE : Hid ((fun j => ((fun _ => false) j || (da j && !decide (j ∈ left))) || decide (j = k)) = (fun i => (fun _ => false) i || (da i && !decide (i ∈ left.filter (· ≠ k))))) := by
        funext i
        by_cases e : i = k
        · subst e; simp [HDK.out]
        · simp [e]
      simp only [ik] at hrun hen
      clear rg rg2 hv f2 z2 hk hdk MR'
      go_wp2_with (first
        | (at_mapUpdate; refine wp_upd rfl rfl kInt uQSet MO.out rfl (k := k) rfl (u := .bool true) rfl ?_; intro w4 hm4 hf4 hs4; go_frame)
        | go_in)
      rw [sm_put, HE.out] at hm4
      have hne : bA ≠ bo := fun e => by have := HA.out.lt; have := HBO.out; omega
      have r4 := RG2.out.fr hf4 (fun e => hne e) (fun e => by have := HRW1.out; omega)
      exact ⟨⟨left.filter (· ≠ k), _, r4, hm4, FR2.out.then hf4 (fun i hi e => by have := HBO.out; omega), by omega⟩, by rw [r4.left_eq, HRL.out]; exact filter_lt HK.out⟩

end Go.Proofs.Qxb6500450aGreat
