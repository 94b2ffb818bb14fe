/- The sorted copy of a set. -/
import Derived.Test.Qxb6500450aGreatQSet
namespace Go.Proofs.Qxb6500450aGreat
open Go Go.RowKit
set_option maxRecDepth 100000
set_option maxHeartbeats 1600000
set_option linter.unusedSimpArgs false
set_option linter.unusedVariables false

theorem ins_swap2 (S : List Int) (j : Nat) (x : Int) (h : j < S.length) : ((ins S (j + 1) x).set (j + 1) S[j]).set j x = ins S j x := by
  rw [List.set_comm _ _ (by omega)]
  exact ins_swap S j x h
theorem filter_asc (d : Int → Bool) : Asc (nine.filter d) := nine_asc.sublist List.filter_sublist

theorem sorted_any {w : World} {base : Nat} {v : Value} {d : Int → Bool} (h : SetV w base v d) (hd : ∀ i, d i = true → 1 ≤ i ∧ i ≤ 9) :
    Calls Tryz.prog 53 #[v] w fun e w' => ∃ v', e = .returned v' ∧ OwnI w' w.heap.size v' (nine.filter d) ∧ (nine.filter d = [] → v' = .slice none 0 0) ∧ Fr (fun _ => False) w w' := by
  have HD := hid hd
  have HM9 : Hid (∀ i, i ∈ nine.filter d ↔ d i = true) := fun i => by
    rw [List.mem_filter]
    exact ⟨fun h => h.2, fun h => ⟨mem_nine (hd i h).1 (hd i h).2, h⟩⟩
  clear hd
  rcases h with ⟨rfl, hno⟩ | ⟨bd, n, rfl, hb, md⟩
  · have HE : Hid (nine.filter d = []) := by unfold Hid; rw [List.filter_eq_nil_iff]; intro i _; simp [hno i]
    have hrg := rangeQ_nil
    have hnx := fun ty => next_nil w ty
    clear hno
    go_enter Tryz.func53, Tryz.ntmps53
    go_wp2_with fail
    refine wp_loop_rounds 1 ?_
    rw [rounds_succ]
    go_wp2_with fail
    go_ret
    rw [HE.out]
    exact ⟨_, rfl, OwnI.nil _ _, fun _ => rfl, (Fr.refl _ _).alloc _⟩
  have MD := hid md
  clear md
  go_enter Tryz.func53, Tryz.ntmps53
  go_wp2_with (first
    | (at_range; refine wp_range rfl rfl uQSet MD.out rfl ?_; intro w1 left0 rg1 ln1 lm1 f1 z1; go_frame)
    | go_in)
  obtain ⟨rb, hrb⟩ : ∃ rb, rb = w.heap.size := ⟨_, rfl⟩
  rw [← hrb] at rg1 z1 ⊢
  have HRB := hid hrb
  have L1 : Hid (∀ k, k ∈ left0 ↔ d k = true) := fun k => by rw [lm1 k, sm_some]
  clear hrb ln1 lm1
  go_loopw [3] (fun v wr => ∃ left S, Ranges ik wr bd rb (sm d) left ∧ OwnI wr (rb + 1) v S ∧ Asc S ∧ (∀ k, k ∈ S ↔ d k = true ∧ k ∉ left) ∧ Fr (fun _ => False) w wr ∧ rb + 1 ≤ wr.heap.size ∧ (S = [] → v = .slice none 0 0)) (fun _ wr => wr.rangeLeft bd rb)
  case atStart => exact ⟨left0, [], rg1, OwnI.nil _ _, List.Pairwise.nil, fun k => by have := L1.out k; simp; exact fun h => this.2 h, f1, by omega, fun _ => rfl⟩
  case round =>
    obtain ⟨left, S, rg, hown, hasc, hmem, fr, hsz, hnl⟩ := hrel
    have NL := hid hnl
    clear hnl
    have RG := hid rg
    have OW := hid hown
    have AS := hid hasc
    have ME := hid hmem
    have FR := hid fr
    have hrS := rg.ne
    have hlS : S.length ≤ 9 := by
      have h1 : S.length ≤ nine.length := nodup_len (hasc.imp (fun h => by omega)) (fun x hx => by have := HD.out x ((hmem x).1 hx).1; exact mem_nine this.1 this.2)
      have : nine.length = 9 := rfl
      omega
    clear fr hown hasc hmem
    rcases rg.next (P := Tryz.prog) 0 with ⟨hnil, hrun⟩ | ⟨k, v, w2, hk, hv, hrun, hen, rg2, f2, z2⟩
    · clear rg
      subst hnil
      go_wp2_with fail
      go_ret
      have e : S = nine.filter d := asc_ext AS.out (filter_asc d) (fun x => by rw [ME.out x, HM9.out x]; simp)
      refine ⟨_, rfl, ?_, ?_, FR.out⟩
      · rw [← e, ← HRB.out]
        exact OW.out.mono (by omega)
      · rw [← e]; exact NL.out
    · have OW2 := hid (OW.out.fr f2 (fun j hj e => by have := (OW.out.lt hj).1; omega))
      have FR2 := hid (FR.out.then f2 (fun i hi e => absurd hi (by rw [e, HRB.out]; omega)))
      have RG2 := hid rg2
      have HK := hid hk
      have hz2 : rb + 1 ≤ w2.heap.size := by omega
      have HF : Hid (d k = true) := by have := rg.here hk; rw [sm_some] at this; exact this
      have hk64 : I64 k := by have := HD.out k HF.out; unfold I64; omega
      simp only [ik] at hrun hen
      clear rg rg2 hv f2 z2 OW
      clear hk
      go_wp2_with (first
        | (at_builtin; refine wp_appI rfl rfl (v := u3) rfl (OW2.out.fr ((Fr.refl (fun _ => False) _).alloc _) (fun _ _ h => h)) rfl (y := k) (At.new w2 #[.int .i64 k] _ rfl).c (by omega) (by simp; omega) ?_; intro g cap w3 ow3 f3 hg3 hl3)
        | go_in)
      have hgb : rb + 1 ≤ g := (ow3.lt rfl).1
      have f03 : Fr (fun _ => False) w w3 := ((FR2.out.alloc _).then f3 (fun i hi e => by have := (OW2.out.lt e).1; have := HRB.out; omega))
      have RG3 := hid ((RG2.out.fr ((Fr.refl (fun _ => False) _).alloc _) (fun h => h) (fun h => h)).fr f3 (fun e => by have := (OW2.out.lt e).1; have := MD.out.lt; have := HRB.out; omega) (fun e => by have := (OW2.out.lt e).1; omega))
      have F03 := hid f03
      have OW3 := hid ow3
      have hz3 : rb + 1 ≤ w3.heap.size := by omega
      clear ow3 f3 hg3 f03 OW2 FR2 RG2 hrun hen hz2
      have FIN : Hid (∀ (wi : World) (j : Nat), j ≤ S.length → OwnI wi (rb + 1) (.slice (some ⟨g, 0, none⟩) (S.length + 1) cap) (ins S j k) → (∀ y ∈ S.drop j, k < y) → Fr (fun i => i = g) w3 wi → (j = 0 ∨ ∃ i, j = i + 1 ∧ ∃ hi : i < S.length, S[i] < k) →
          (∃ left S', Ranges ik wi bd rb (sm d) left ∧ OwnI wi (rb + 1) (.slice (some ⟨g, 0, none⟩) (S.length + 1) cap) S' ∧ Asc S' ∧ (∀ k, k ∈ S' ↔ d k = true ∧ k ∉ left) ∧ Fr (fun _ => False) w wi ∧ rb + 1 ≤ wi.heap.size ∧ (S' = [] → Value.slice (some ⟨g, 0, none⟩) (S.length + 1) cap = .slice none 0 0)) ∧ wi.rangeLeft bd rb < wr.rangeLeft bd rb) := by
        intro wi j hj ow hgt fi hc
        have rgi := RG3.out.fr fi (fun e => by have := MD.out.lt; have := HRB.out; omega) (fun e => by omega)
        refine ⟨⟨left.filter (· ≠ k), ins S j k, rgi, ow, ins_asc AS.out hj hgt hc, fun y => ?_, F03.out.then fi (fun i hi e => by have := HRB.out; omega), Nat.le_trans hz3 fi.size, fun h0 => absurd (congrArg List.length h0) (by rw [ins_len _ _ _ hj]; simp)⟩, ?_⟩
        · rw [ins_mem, ME.out y, List.mem_filter]
          by_cases e : y = k
          · subst e; simp [HF.out]
          · simp [e]
        · rw [rgi.left_eq, RG.out.left_eq]; exact filter_lt HK.out
      go_loopw [5] (fun i wi => ∃ j : Nat, j ≤ S.length ∧ i = .int .i64 j ∧ OwnI wi (rb + 1) (.slice (some ⟨g, 0, none⟩) (S.length + 1) cap) (ins S j k) ∧ (∀ y ∈ S.drop j, k < y) ∧ Fr (fun i => i = g) w3 wi) (fun i _ => (intOf i).toNat)
      case atStart => exact ⟨S.length, Nat.le_refl _, by go_num, by rw [ins_end]; exact OW3.out, by simp, Fr.refl _ _⟩
      case round =>
        obtain ⟨j, hj, rfl, ow, hgt, fi⟩ := hrel
        have OW := hid ow
        have GT := hid hgt
        have FI := hid fi
        have hkS : Hid (k ∉ S) := fun h => ((ME.out k).1 h).2 HK.out
        cases j with
        | zero =>
          clear ow hgt fi
          go_wp2_with fail
          go_quiet (fail)
          go_wp2_with fail
          exact FIN.out _ 0 hj (OW.out.fr ((Fr.refl (fun _ => False) _).drewN _) (fun _ _ h => h)) GT.out (FI.out.drewN _) (.inl rfl)
        | succ j =>
          have a0 := ow.cell (by rw [ins_len _ _ _ hj]) (j := j) (by rw [ins_len _ _ _ hj]; omega)
          have a1 := ow.cell (by rw [ins_len _ _ _ hj]) (j := j + 1) (by rw [ins_len _ _ _ hj]; omega)
          rw [ins_before S j k (by omega)] at a0
          rw [ins_at S (j + 1) k hj] at a1
          have c0 := a0.c
          have c1 := a1.c
          have x0 := a0.f
          have x1 := a1.f
          have hw : IntKind.i64.wrap (((j + 1 : Nat) : Int) - 1) = (j : Int) := by rw [show ((j + 1 : Nat) : Int) - 1 = (j : Int) from by omega]; exact Go.IntWalk.i64_in _ (by omega)
          have hp : decide ((0 : Int) < ((j + 1 : Nat) : Int)) = true := decide_eq_true (by omega)
          have hjl : j < S.length := by omega
          have hne : S[j] ≠ k := fun e => hkS.out (e ▸ List.getElem_mem _)
          clear ow hgt fi a0 a1
          by_cases hlt : k < S[j]
          · have hb : decide (k < S[j]) = true := by simp [hlt]
            go_wp2_with fail
            go_quiet (fail)
            go_wp2_with fail
            go_region
            have OWq := OW.out.fr ((Fr.refl (fun _ => False) wr).drewN (nq + 1)) (fun _ _ h => h)
            have h1 := (OWq.set (by rw [ins_len _ _ _ hj]) (j + 1) S[j]).set (by rw [List.length_set, ins_len _ _ _ hj]) j k
            rw [ins_swap2 S j k hjl] at h1
            have OWE := hid h1
            have FE := hid (((FI.out.drewN (nq + 1)).setCell (p := ⟨g, j + 1, none⟩) (fun _ => rfl) (.int .i64 S[j])).setCell (p := ⟨g, j, none⟩) (fun _ => rfl) (.int .i64 k))
            clear h1 OWq c0 c1 x0 x1
            generalize ((wr.drewN (nq + 1)).setCell ⟨g, j + 1, none⟩ (.int .i64 S[j])).setCell ⟨g, j, none⟩ (.int .i64 k) = we at *
            go_wp2_with fail
            refine ⟨⟨j, by omega, by go_num, OWE.out, ?_, FE.out⟩, by simp [intOf]⟩
            intro y hy
            rw [List.drop_eq_getElem_cons hjl] at hy
            rcases List.mem_cons.1 hy with rfl | hy
            · exact hlt
            · exact GT.out y hy
          · have hb : decide (k < S[j]) = false := by simp; omega
            go_wp2_with fail
            go_quiet (fail)
            go_wp2_with fail
            exact FIN.out _ (j + 1) hj (OW.out.fr ((Fr.refl (fun _ => False) _).drewN _) (fun _ _ h => h)) GT.out (FI.out.drewN _) (.inr ⟨j, rfl, hjl, by omega⟩)

end Go.Proofs.Qxb6500450aGreat
