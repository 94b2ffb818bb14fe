/- Ids. -/
import Derived.Test.Qxb6500450aGreatDrop
namespace Go.Proofs.Qxb6500450aGreat
open Go Go.RowKit
set_option maxRecDepth 100000
set_option maxHeartbeats 1600000
set_option linter.unusedSimpArgs false
set_option linter.unusedVariables false

def Asc (l : List Int) : Prop := l.Pairwise (· < ·)

theorem asc_ext : ∀ {l m : List Int}, Asc l → Asc m → (∀ x, x ∈ l ↔ x ∈ m) → l = m
  | [], [], _, _, _ => rfl
  | [], b :: m, _, _, h => by have := (h b).2 (by simp); simp at this
  | a :: l, [], _, _, h => by have := (h a).1 (by simp); simp at this
  | a :: l, b :: m, hl, hm, h => by
    obtain ⟨hl1, hl2⟩ := List.pairwise_cons.1 hl
    obtain ⟨hm1, hm2⟩ := List.pairwise_cons.1 hm
    have e : a = b := by
      rcases List.mem_cons.1 ((h a).1 (by simp)) with e | e
      · exact e
      · rcases List.mem_cons.1 ((h b).2 (by simp)) with e' | e'
        · exact e'.symm
        · have := hm1 a e; have := hl1 b e'; omega
    subst e
    congr 1
    refine asc_ext hl2 hm2 (fun x => ?_)
    constructor
    · intro hx
      rcases List.mem_cons.1 ((h x).1 (by simp [hx])) with e | e
      · have := hl1 x hx; omega
      · exact e
    · intro hx
      rcases List.mem_cons.1 ((h x).2 (by simp [hx])) with e | e
      · have := hm1 x hx; omega
      · exact e

theorem ids_asc (f : DocF) : Asc (ids f) := List.Pairwise.filter _ (by unfold nine; decide)

/-- x laid into S ahead of place k. -/
def ins (S : List Int) (k : Nat) (x : Int) : List Int := S.take k ++ x :: S.drop k

theorem ins_len (S : List Int) (k : Nat) (x : Int) (h : k ≤ S.length) : (ins S k x).length = S.length + 1 := by
  simp [ins]; omega
theorem ins_end (S : List Int) (x : Int) : ins S S.length x = S ++ [x] := by simp [ins]
theorem ins_mem (S : List Int) (k : Nat) (x y : Int) : y ∈ ins S k x ↔ y = x ∨ y ∈ S := by
  have : y ∈ S ↔ y ∈ S.take k ∨ y ∈ S.drop k := by rw [← List.mem_append, List.take_append_drop]
  rw [this]
  simp only [ins, List.mem_append, List.mem_cons]
  constructor
  · rintro (h | h | h) <;> simp [h]
  · rintro (h | h | h) <;> simp [h]
theorem ins_at (S : List Int) (k : Nat) (x : Int) (h : k ≤ S.length) : (ins S k x).getD k 0 = x := by
  unfold ins
  rw [List.getD_eq_getElem?_getD, List.getElem?_append_right (by simp; omega)]
  simp [Nat.min_eq_left h]
theorem ins_before (S : List Int) (j : Nat) (x : Int) (h : j < S.length) : (ins S (j + 1) x).getD j 0 = S[j] := by
  unfold ins
  rw [List.getD_eq_getElem?_getD, List.getElem?_append_left (by simp; omega), List.getElem?_take]
  simp [h]
theorem ins_swap (S : List Int) (j : Nat) (x : Int) (h : j < S.length) : ((ins S (j + 1) x).set j x).set (j + 1) S[j] = ins S j x := by
  apply List.ext_getElem?
  intro i
  unfold ins
  rw [List.getElem?_set, List.getElem?_set]
  have hl : (S.take (j + 1) ++ x :: S.drop (j + 1)).length = S.length + 1 := by simp; omega
  by_cases h1 : j + 1 = i
  · subst h1
    rw [if_pos rfl, if_pos (by rw [List.length_set, hl]; omega)]
    rw [List.getElem?_append_right (by simp; omega)]
    have : (S.take j).length = j := by simp; omega
    rw [this, Nat.add_sub_cancel_left, List.getElem?_cons_succ]
    simp [h]
  · rw [if_neg h1]
    by_cases h2 : j = i
    · subst h2
      rw [if_pos rfl, if_pos (by rw [hl]; omega), List.getElem?_append_right (by simp; omega)]
      have : (S.take j).length = j := by simp; omega
      rw [this]
      simp
    · rw [if_neg h2]
      rcases Nat.lt_or_ge i j with h3 | h3
      · rw [List.getElem?_append_left (by simp; omega), List.getElem?_append_left (by simp; omega), List.getElem?_take, List.getElem?_take]
        rw [if_pos (by omega), if_pos (by omega)]
      · rw [List.getElem?_append_right (by simp; omega), List.getElem?_append_right (by simp; omega)]
        have e1 : (S.take (j + 1)).length = j + 1 := by simp; omega
        have e2 : (S.take j).length = j := by simp; omega
        rw [e1, e2]
        obtain ⟨m, rfl⟩ : ∃ m, i = j + 2 + m := ⟨i - (j + 2), by omega⟩
        rw [show j + 2 + m - (j + 1) = m + 1 from by omega, show j + 2 + m - j = m + 1 + 1 from by omega, List.getElem?_cons_succ, List.getElem?_cons_succ, List.getElem?_drop, List.getElem?_drop]
        congr 1; omega

theorem ins_asc {S : List Int} (h : Asc S) {k : Nat} {x : Int} (hk : k ≤ S.length) (h1 : ∀ y ∈ S.drop k, x < y) (h2 : k = 0 ∨ ∃ j, k = j + 1 ∧ ∃ hj : j < S.length, S[j] < x) : Asc (ins S k x) := by
  unfold Asc ins
  rw [List.pairwise_append]
  have hp : (S.take k ++ S.drop k).Pairwise (· < ·) := by rw [List.take_append_drop]; exact h
  obtain ⟨p1, p2, p3⟩ := List.pairwise_append.1 hp
  have hx : ∀ y ∈ S.take k, y < x := by
    rcases h2 with rfl | ⟨j, rfl, hj, hlt⟩
    · simp
    · intro y hy
      rw [List.take_succ_eq_append_getElem hj] at hy p1
      rcases List.mem_append.1 hy with hy | hy
      · have := (List.pairwise_append.1 p1).2.2 y hy S[j] (by simp)
        omega
      · simp at hy; omega
  refine ⟨p1, List.pairwise_cons.2 ⟨h1, p2⟩, fun y hy z hz => ?_⟩
  rcases List.mem_cons.1 hz with rfl | hz
  · exact hx y hy
  · exact p3 y hy z hz

theorem OwnI.mono {w : World} {base base' : Nat} {v : Value} {l : List Int} (h : OwnI w base v l) (hb : base' ≤ base) : OwnI w base' v l := by
  refine ⟨h.1, ?_⟩
  rcases h.2 with h' | ⟨g, cap, cur, h1, h2, h3⟩
  · exact .inl h'
  · exact .inr ⟨g, cap, cur, h1, Nat.le_trans hb h2, h3⟩

theorem OwnI.lt {w : World} {base : Nat} {v : Value} {l : List Int} (h : OwnI w base v l) {k : Nat} (hk : v.ownBlock = some k) : base ≤ k ∧ k < w.heap.size := World.ownsRow.lt h k hk

theorem ids_any {w : World} {F : Nat → Prop} {bS : Nat} {f : DocF} {r : Int → Nat} (h : SR w F bS f r) :
    Calls Tryz.prog 98 #[.pointer (some ⟨bS, 0, none⟩)] w fun e w' => ∃ v, e = .returned v ∧ OwnI w' w.heap.size v (ids f) ∧ (ids f = [] → v = .slice none 0 0) ∧ Fr (fun _ => False) w w' := by
  obtain ⟨bd, br, bg, p, n, m, q, h⟩ := h
  have H := hid h
  have s0 := h.s0.c
  clear h
  go_enter Tryz.func98, Tryz.ntmps98
  go_wp2_with (first
    | (at_range; refine wp_range rfl rfl uDocs H.out.md rfl ?_; intro w1 left0 rg1 ln1 lm1 f1 z1; go_frame)
    | go_in)
  obtain ⟨rb, hrb⟩ : ∃ rb, rb = w.heap.size := ⟨_, rfl⟩
  rw [← hrb] at rg1 z1 ⊢
  have HRB := hid hrb
  have L1 : Hid (∀ k, k ∈ left0 ↔ (f k).isSome = true) := fun k => by rw [lm1 k]; simp [dm]
  clear hrb ln1 lm1
  go_loopw [3] (fun v wr => ∃ left S, Ranges ik wr bd rb (dm p f) left ∧ OwnI wr (rb + 1) v S ∧ Asc S ∧ (∀ k, k ∈ S ↔ (f k).isSome = true ∧ k ∉ left) ∧ Fr (fun _ => False) w wr ∧ rb + 1 ≤ wr.heap.size ∧ (S = [] → v = .slice none 0 0)) (fun _ wr => wr.rangeLeft bd rb)
  case atStart => exact ⟨left0, [], rg1, OwnI.nil _ _, List.Pairwise.nil, fun k => by have := L1.out k; simp; exact fun h => this.2 h, f1, by omega, fun _ => rfl⟩
  case round =>
    obtain ⟨left, S, rg, hown, hasc, hmem, fr, hsz, hnl⟩ := hrel
    have NL := hid hnl
    clear hnl
    have RG := hid rg
    have OW := hid hown
    have AS := hid hasc
    have ME := hid hmem
    have FR := hid fr
    have hrS := rg.ne
    have hlS : S.length ≤ 9 := by
      have h1 : S.length ≤ (ids f).length := nodup_len (hasc.imp (fun h => by omega)) (fun x hx => (ids_mem H.out.ok x).2 ((hmem x).1 hx).1)
      have := nDocs_le f
      rw [ids_len] at h1
      omega
    clear fr hown hasc hmem
    rcases rg.next (P := Tryz.prog) 0 with ⟨hnil, hrun⟩ | ⟨k, v, w2, hk, hv, hrun, hen, rg2, f2, z2⟩
    · clear rg
      subst hnil
      go_wp2_with fail
      go_ret
      have e : S = ids f := asc_ext AS.out (ids_asc f) (fun x => by rw [ME.out x, ids_mem H.out.ok]; simp)
      refine ⟨_, rfl, ?_, ?_, FR.out⟩
      · rw [← e, ← HRB.out]
        exact OW.out.mono (by omega)
      · rw [← e]; exact NL.out
    · have OW2 := hid (OW.out.fr f2 (fun j hj e => by have := (OW.out.lt hj).1; omega))
      have FR2 := hid (FR.out.then f2 (fun i hi e => absurd hi (by rw [e, HRB.out]; omega)))
      have RG2 := hid rg2
      have HK := hid hk
      have hz2 : rb + 1 ≤ w2.heap.size := by omega
      have HF : Hid ((f k).isSome = true) := by have := rg.here hk; simpa [Hid, dm] using this
      have hk64 : I64 k := by
        obtain e | ⟨d, e⟩ := opt (f k)
        · have := HF.out; rw [e] at this; cases this
        · have := H.out.ok.rng k d e; unfold I64; omega
      simp only [ik] at hrun hen
      clear rg rg2 hv f2 z2 OW
      clear hk
      go_wp2_with (first
        | (at_builtin; refine wp_appI rfl rfl (v := u3) rfl (OW2.out.fr ((Fr.refl (fun _ => False) _).alloc _) (fun _ _ h => h)) rfl (y := k) (At.new w2 #[.int .i64 k] _ rfl).c (by omega) (by simp; omega) ?_; intro g cap w3 ow3 f3 hg3 hl3)
        | go_in)
      have hgb : rb + 1 ≤ g := (ow3.lt rfl).1
      have f03 : Fr (fun _ => False) w w3 := ((FR2.out.alloc _).then f3 (fun i hi e => by have := (OW2.out.lt e).1; have := HRB.out; omega))
      have RG3 := hid ((RG2.out.fr ((Fr.refl (fun _ => False) _).alloc _) (fun h => h) (fun h => h)).fr f3 (fun e => by have := (OW2.out.lt e).1; have := H.out.md.lt; have := HRB.out; omega) (fun e => by have := (OW2.out.lt e).1; omega))
      have F03 := hid f03
      have OW3 := hid ow3
      have hz3 : rb + 1 ≤ w3.heap.size := by omega
      clear ow3 f3 hg3 f03 OW2 FR2 RG2 hrun hen hz2
      have FIN : Hid (∀ (wi : World) (j : Nat), j ≤ S.length → OwnI wi (rb + 1) (.slice (some ⟨g, 0, none⟩) (S.length + 1) cap) (ins S j k) → (∀ y ∈ S.drop j, k < y) → Fr (fun i => i = g) w3 wi → (j = 0 ∨ ∃ i, j = i + 1 ∧ ∃ hi : i < S.length, S[i] < k) →
          (∃ left S', Ranges ik wi bd rb (dm p f) left ∧ OwnI wi (rb + 1) (.slice (some ⟨g, 0, none⟩) (S.length + 1) cap) S' ∧ Asc S' ∧ (∀ k, k ∈ S' ↔ (f k).isSome = true ∧ k ∉ left) ∧ Fr (fun _ => False) w wi ∧ rb + 1 ≤ wi.heap.size ∧ (S' = [] → Value.slice (some ⟨g, 0, none⟩) (S.length + 1) cap = .slice none 0 0)) ∧ wi.rangeLeft bd rb < wr.rangeLeft bd rb) := by
        intro wi j hj ow hgt fi hc
        have rgi := RG3.out.fr fi (fun e => by have := H.out.md.lt; have := HRB.out; omega) (fun e => by omega)
        refine ⟨⟨left.filter (· ≠ k), ins S j k, rgi, ow, ins_asc AS.out hj hgt hc, fun y => ?_, F03.out.then fi (fun i hi e => by have := HRB.out; omega), Nat.le_trans hz3 fi.size, fun h0 => absurd (congrArg List.length h0) (by rw [ins_len _ _ _ hj]; simp)⟩, ?_⟩
        · rw [ins_mem, ME.out y, List.mem_filter]
          by_cases e : y = k
          · subst e; simp [HF.out]
          · simp [e]
        · rw [rgi.left_eq, RG.out.left_eq]; exact filter_lt HK.out
      go_loopw [5] (fun i wi => ∃ j : Nat, j ≤ S.length ∧ i = .int .i64 j ∧ OwnI wi (rb + 1) (.slice (some ⟨g, 0, none⟩) (S.length + 1) cap) (ins S j k) ∧ (∀ y ∈ S.drop j, k < y) ∧ Fr (fun i => i = g) w3 wi) (fun i _ => (intOf i).toNat)
      case atStart => exact ⟨S.length, Nat.le_refl _, by go_num, by rw [ins_end]; exact OW3.out, by simp, Fr.refl _ _⟩
      case round =>
        obtain ⟨j, hj, rfl, ow, hgt, fi⟩ := hrel
        have OW := hid ow
        have GT := hid hgt
        have FI := hid fi
        have hkS : Hid (k ∉ S) := fun h => ((ME.out k).1 h).2 HK.out
        cases j with
        | zero =>
          clear ow hgt fi
          go_wp2_with fail
          go_quiet (fail)
          go_wp2_with fail
          exact FIN.out _ 0 hj (OW.out.fr ((Fr.refl (fun _ => False) _).drewN _) (fun _ _ h => h)) GT.out (FI.out.drewN _) (.inl rfl)
        | succ j =>
          have a0 := ow.cell (by rw [ins_len _ _ _ hj]) (j := j) (by rw [ins_len _ _ _ hj]; omega)
          have a1 := ow.cell (by rw [ins_len _ _ _ hj]) (j := j + 1) (by rw [ins_len _ _ _ hj]; omega)
          rw [ins_before S j k (by omega)] at a0
          rw [ins_at S (j + 1) k hj] at a1
          have c0 := a0.c
          have c1 := a1.c
          have x0 := a0.f
          have x1 := a1.f
          have hw : IntKind.i64.wrap (((j + 1 : Nat) : Int) - 1) = (j : Int) := by rw [show ((j + 1 : Nat) : Int) - 1 = (j : Int) from by omega]; exact Go.IntWalk.i64_in _ (by omega)
          have hp : decide ((0 : Int) < ((j + 1 : Nat) : Int)) = true := decide_eq_true (by omega)
          have hjl : j < S.length := by omega
          have hne : S[j] ≠ k := fun e => hkS.out (e ▸ List.getElem_mem _)
          clear ow hgt fi a0 a1
          by_cases hlt : k < S[j]
          · have hb : decide (k < S[j]) = true := by simp [hlt]
            go_wp2_with fail
            go_quiet (fail)
            go_wp2_with fail
            go_region
            have OWq := OW.out.fr ((Fr.refl (fun _ => False) wr).drewN (nq + 1)) (fun _ _ h => h)
            have h1 := (OWq.set (by rw [ins_len _ _ _ hj]) j k).set (by rw [List.length_set, ins_len _ _ _ hj]) (j + 1) S[j]
            rw [ins_swap S j k hjl] at h1
            have OWE := hid h1
            have FE := hid (((FI.out.drewN (nq + 1)).setCell (p := ⟨g, j, none⟩) (fun _ => rfl) (.int .i64 k)).setCell (p := ⟨g, j + 1, none⟩) (fun _ => rfl) (.int .i64 S[j]))
            clear h1 OWq c0 c1 x0 x1
            generalize ((wr.drewN (nq + 1)).setCell ⟨g, j, none⟩ (.int .i64 k)).setCell ⟨g, j + 1, none⟩ (.int .i64 S[j]) = we at *
            go_wp2_with fail
            refine ⟨⟨j, by omega, by go_num, OWE.out, ?_, FE.out⟩, by simp [intOf]⟩
            intro y hy
            rw [List.drop_eq_getElem_cons hjl] at hy
            rcases List.mem_cons.1 hy with rfl | hy
            · exact hlt
            · exact GT.out y hy
          · have hb : decide (k < S[j]) = false := by simp; omega
            go_wp2_with fail
            go_quiet (fail)
            go_wp2_with fail
            exact FIN.out _ (j + 1) hj (OW.out.fr ((Fr.refl (fun _ => False) _).drewN _) (fun _ _ h => h)) GT.out (FI.out.drewN _) (.inr ⟨j, rfl, hjl, by omega⟩)

end Go.Proofs.Qxb6500450aGreat
