/- The model's questions: InGroup, at, Get, Ids. -/
import Derived.Test.Qxb6500450aGreatMRep
namespace Go.Proofs.Qxb6500450aGreat
open Go Go.RowKit
set_option maxRecDepth 100000
set_option maxHeartbeats 1600000
set_option linter.unusedSimpArgs false
set_option linter.unusedVariables false

theorem countP_take_succ {α : Type} (p : α → Bool) (l : List α) (k : Nat) (h : k < l.length) : (l.take (k + 1)).countP p = (l.take k).countP p + (if p l[k] then 1 else 0) := by
  rw [List.take_succ_eq_append_getElem h, List.countP_append]
  simp [List.countP_cons]

theorem mingroup_any {w : World} {G : Nat → Prop} {bM : Nat} {f : DocF} {r : Int → Nat} (h : MR w G bM f r) (g : Int) :
    Calls Tryz.prog 99 #[.pointer (some ⟨bM, 0, none⟩), .int .i64 g] w fun e w' => e = .returned (.int .i64 (cnt f g : Int)) ∧ MR w' G bM f r ∧ Fr (fun i => i = bM) w w' := by
  obtain ⟨x, h4⟩ := h.ask
  have c1 := h4.c
  have x1 := h4.f
  have HA := hid (h.asked (wrap64 (x + 1)))
  have FA := hid ((Fr.refl (fun i => i = bM) w).setCell (p := ⟨bM, 11, none⟩) (fun _ => rfl) (.int .i64 (wrap64 (x + 1))))
  have hn9 : (lst f).length ≤ 9 := by rw [lst_len]; exact nDocs_le f
  clear h h4
  go_enter Tryz.func99, Tryz.ntmps99
  go_wp2_with fail
  generalize w.setCell ⟨bM, 11, none⟩ (.int .i64 (wrap64 (x + 1))) = w1 at *
  obtain ⟨v, h1, h2, h3⟩ := HA.out.row
  obtain ⟨a, cap, rfl, ha⟩ := h2.slice
  have OW := hid h2
  have HS := hid ha
  have c0 := h1.c
  obtain ⟨L, hL⟩ : ∃ L, L = (lst f).length := ⟨_, rfl⟩
  rw [← hL] at c0 hn9 OW
  have HL := hid hL
  clear h1 h2 h3 ha hL c1 x1
  go_loop [5, 6] (fun c i => ∃ k : Nat, k ≤ L ∧ i = .int .i64 k ∧ c = .int .i64 (((lst f).take k).countP (fun x => x.2.1 == g) : Nat)) (fun _ i => L - (intOf i).toNat)
  case atStart => exact ⟨0, by omega, rfl, rfl⟩
  case round =>
    obtain ⟨k, hk, rfl, rfl⟩ := hrel
    have hk0 : (0 : Int) ≤ (k : Int) := by omega
    by_cases hlt : k < L
    · have hltI : (k : Int) < (L : Int) := by omega
      have hkl : k < (lst f).length := by have := HL.out; omega
      obtain ⟨gb, rfl, _, hgl⟩ := HS.out (fun e => by rw [e] at hkl; simp at hkl)
      have c := (OW.out.cell HL.out hkl).2.1.c
      have HT := hid (countP_take_succ (fun x : D3 => x.2.1 == g) (lst f) k hkl)
      have hc9 : (((lst f).take k).countP (fun x => x.2.1 == g) : Int) ≤ 9 := by
        have h1 : ((lst f).take k).countP (fun x => x.2.1 == g) ≤ ((lst f).take k).length := List.countP_le_length
        have h2 : ((lst f).take k).length ≤ k := List.length_take_le _ _
        omega
      have hc0 : (0 : Int) ≤ (((lst f).take k).countP (fun x => x.2.1 == g) : Int) := by omega
      generalize ((lst f).take k).countP (fun x => x.2.1 == g) = n at *
      generalize (lst f)[k].2.1 = y at *
      by_cases hy : y = g
      · have hyb : (y == g) = true := by simp [hy]
        have E : Hid (((lst f).take (k + 1)).countP (fun x => x.2.1 == g) = n + 1) := by have := HT.out; simp only [hyb] at this; simpa [Hid] using this
        clear hy HT
        go_wp2_with fail
        exact ⟨⟨k + 1, by omega, by go_num, by rw [E.out]; congr 1⟩, by simp [intOf]; omega⟩
      · have hyb : (y == g) = false := by simp [hy]
        have E : Hid (((lst f).take (k + 1)).countP (fun x => x.2.1 == g) = n) := by have := HT.out; simp only [hyb] at this; simpa [Hid] using this
        clear hy HT
        go_wp2_with fail
        exact ⟨⟨k + 1, by omega, by go_num, by rw [E.out]⟩, by simp [intOf]; omega⟩
    · have hltI : ¬ (k : Int) < (L : Int) := by omega
      have e : (lst f).take k = lst f := List.take_of_length_le (by have := HL.out; omega)
      rw [e, ← lst_cnt]
      go_wp2_with fail
      go_ret
      exact ⟨rfl, HA.out, FA.out⟩

def atN (f : DocF) (id : Int) : Nat := (part f (loN id)).length

theorem at_low {f : DocF} {id : Int} (h1 : 1 ≤ id) (h2 : id ≤ 9) {k : Nat} (hk : k < atN f id) : ∃ h : k < (lst f).length, (lst f)[k].1 < id := by
  have hl : ∃ R, lst f = part f (loN id) ++ R := by
    obtain e | ⟨d, e⟩ := opt (f id)
    · exact ⟨_, lst_none h1 h2 e⟩
    · exact ⟨_, lst_some h1 h2 e⟩
  obtain ⟨R, hR⟩ := hl
  unfold atN at hk
  have hlen : k < (lst f).length := by rw [hR, List.length_append]; omega
  refine ⟨hlen, ?_⟩
  have e : (lst f)[k] = (part f (loN id))[k] := by simp only [hR]; rw [List.getElem_append_left hk]
  rw [e]
  have := (part_mem (List.getElem_mem hk)).1
  have := (List.mem_filter.1 this).2
  simpa using this

theorem at_here {f : DocF} {id : Int} (h1 : 1 ≤ id) (h2 : id ≤ 9) : (f id = none ∧ atN f id = (lst f).length) ∨ (∃ h : atN f id < (lst f).length, (lst f)[atN f id].1 = id ∧ ∃ d, f id = some d ∧ (lst f)[atN f id] = (id, d.1, d.2)) ∨ (f id = none ∧ ∃ h : atN f id < (lst f).length, id < (lst f)[atN f id].1) := by
  obtain e | ⟨d, e⟩ := opt (f id)
  · have hl := lst_none h1 h2 e
    rcases hB : part f (hiN id) with _ | ⟨b, B⟩
    · left
      refine ⟨e, ?_⟩
      rw [hl, hB]; simp [atN]
    · right; right
      have hlen : atN f id < (lst f).length := by rw [hl, hB]; simp [atN]
      refine ⟨e, hlen, ?_⟩
      have hg : (lst f)[atN f id] = b := by
        simp only [hl, hB, atN]
        rw [List.getElem_append_right (Nat.le_refl _)]
        simp
      rw [hg]
      have hm : b ∈ part f (hiN id) := by rw [hB]; simp
      have := (part_mem hm).1
      have := (List.mem_filter.1 this).2
      simpa using this
  · have hl := lst_some h1 h2 e
    right; left
    have hlen : atN f id < (lst f).length := by rw [hl]; simp [atN]
    have hg : (lst f)[atN f id] = (id, d.1, d.2) := by
      simp only [hl, atN]
      rw [List.getElem_append_right (Nat.le_refl _)]
      simp
    exact ⟨hlen, by rw [hg], d, e, hg⟩

theorem mat_any {w : World} {G : Nat → Prop} {bM : Nat} {f : DocF} {r : Int → Nat} (h : MR w G bM f r) {id : Int} (i1 : 1 ≤ id) (i2 : id ≤ 9) :
    Calls Tryz.prog 104 #[.pointer (some ⟨bM, 0, none⟩), .int .i64 id] w fun e w' => e = .returned (.tuple #[.int .i64 (atN f id : Int), .bool (f id).isSome]) ∧ Fr (fun _ => False) w w' := by
  have hn9 : (lst f).length ≤ 9 := by rw [lst_len]; exact nDocs_le f
  obtain ⟨v, h1, h2, h3⟩ := h.row
  obtain ⟨a, cap, rfl, ha⟩ := h2.slice
  have OW := hid h2
  have HS := hid ha
  have c0 := h1.c
  obtain ⟨L, hL⟩ : ∃ L, L = (lst f).length := ⟨_, rfl⟩
  have HAT := hid (at_here (f := f) i1 i2)
  have HLO : Hid (∀ k, k < atN f id → ∃ h : k < (lst f).length, (lst f)[k].1 < id) := fun k hk => at_low i1 i2 hk
  have hA : atN f id ≤ L := by
    rw [hL]
    rcases HAT.out with ⟨_, h⟩ | ⟨h, _⟩ | ⟨_, h, _⟩ <;> omega
  rw [← hL] at c0 hn9 OW
  have HL := hid hL
  obtain ⟨A, hAe⟩ : ∃ A, A = atN f id := ⟨_, rfl⟩
  rw [← hAe] at hA HLO ⊢
  have HA := hid hAe
  clear h h1 h2 h3 ha hL hAe
  go_enter Tryz.func104, Tryz.ntmps104
  go_wp2_with fail
  go_loop [6] (fun i => ∃ k : Nat, k ≤ A ∧ i = .int .i64 k) (fun i => A - (intOf i).toNat)
  case atStart => exact ⟨0, by omega, rfl⟩
  case round =>
    obtain ⟨k, hk, rfl⟩ := hrel
    have hk0 : (0 : Int) ≤ (k : Int) := by omega
    by_cases hlt : k < A
    · obtain ⟨hkl, hlow⟩ := HLO.out k hlt
      have hltI : (k : Int) < (L : Int) := by omega
      obtain ⟨gb, rfl, _, hgl⟩ := HS.out (fun e => by rw [e] at hkl; simp at hkl)
      have c := (OW.out.cell HL.out hkl).1.c
      generalize (lst f)[k].1 = y at *
      have hyb : decide (y < id) = true := by simp [hlow]
      go_wp2_with fail
      exact ⟨⟨k + 1, by omega, by go_num⟩, by simp [intOf]; omega⟩
    · obtain rfl : k = A := by omega
      clear hlt hk HLO
      rcases HAT.out with ⟨hf, he⟩ | ⟨hkl, he, d, hf, _⟩ | ⟨hf, hkl, he⟩
      · rw [← HA.out, ← HL.out] at he
        obtain rfl : L = k := by omega
        have HF := hid hf
        clear he HAT hf
        go_wp2_with fail
        go_quiet (fail)
        go_wp2_with fail
        go_ret2
        rw [HF.out]
        exact ⟨rfl, (Fr.refl _ _).drewN _⟩
      · have HF := hid hf
        have hlI : (k : Int) < (L : Int) := by have := HL.out; have := HA.out; omega
        have hlb : decide ((k : Int) < (L : Int)) = true := by simp; omega
        obtain ⟨gb, rfl, _, hgl⟩ := HS.out (fun e => by rw [e] at hkl; simp at hkl)
        have c := (OW.out.cell HL.out hkl).1.c
        rw [he, ← HA.out] at c
        have hyb : decide (id < id) = false := by simp
        clear he HAT hf
        go_wp2_with fail
        go_quiet (fail)
        go_wp2_with fail
        go_ret2
        rw [HF.out]
        exact ⟨rfl, (Fr.refl _ _).drewN _⟩
      · have HF := hid hf
        have hlI : (k : Int) < (L : Int) := by have := HL.out; have := HA.out; omega
        have hlb : decide ((k : Int) < (L : Int)) = true := by simp; omega
        obtain ⟨gb, rfl, _, hgl⟩ := HS.out (fun e => by rw [e] at hkl; simp at hkl)
        have c := (OW.out.cell HL.out hkl).1.c
        generalize (lst f)[atN f id].1 = y at c he
        rw [← HA.out] at c
        have hyb : decide (y < id) = false := by simp; omega
        have hye : (y == id) = false := by simp; omega
        clear he HAT hf
        go_wp2_with fail
        go_quiet (fail)
        go_wp2_with fail
        go_ret2
        rw [HF.out]
        exact ⟨rfl, (Fr.refl _ _).drewN _⟩

end Go.Proofs.Qxb6500450aGreat
