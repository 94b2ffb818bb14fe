/- The model's Ids. -/
import Derived.Test.Qxb6500450aGreatMGet
namespace Go.Proofs.Qxb6500450aGreat
open Go Go.RowKit
set_option maxRecDepth 100000
set_option maxHeartbeats 1600000
set_option linter.unusedSimpArgs false
set_option linter.unusedVariables false

theorem mids_any {w : World} {G : Nat → Prop} {bM : Nat} {f : DocF} {r : Int → Nat} (h : MR w G bM f r) (hG : ∀ i, G i → i < w.heap.size) :
    Calls Tryz.prog 92 #[.pointer (some ⟨bM, 0, none⟩)] w fun e w' => ∃ v, e = .returned v ∧ OwnI w' w.heap.size v (ids f) ∧ (ids f = [] → v = .slice none 0 0) ∧ MR w' G bM f r ∧ Fr (fun i => i = bM) w w' := by
  obtain ⟨x, h4⟩ := h.ask
  have c1 := h4.c
  have x1 := h4.f
  have HGG := hid hG
  have HA := hid (h.asked (wrap64 (x + 1)))
  have FA := hid ((Fr.refl (fun i => i = bM) w).setCell (p := ⟨bM, 11, none⟩) (fun _ => rfl) (.int .i64 (wrap64 (x + 1))))
  have hz1 : (w.setCell ⟨bM, 11, none⟩ (.int .i64 (wrap64 (x + 1)))).heap.size = w.heap.size := by simp
  have hn9 : (lst f).length ≤ 9 := by rw [lst_len]; exact nDocs_le f
  clear h h4 hG
  go_enter Tryz.func92, Tryz.ntmps92
  go_wp2_with fail
  generalize w.setCell ⟨bM, 11, none⟩ (.int .i64 (wrap64 (x + 1))) = w1 at *
  obtain ⟨v, h1, h2, h3⟩ := HA.out.row
  obtain ⟨a, cap, rfl, ha⟩ := h2.slice
  have OW := hid h2
  have HS := hid ha
  have H1 := hid h1
  have HK := hid h3
  obtain ⟨L, hL⟩ : ∃ L, L = (lst f).length := ⟨_, rfl⟩
  rw [← hL] at hn9 OW H1
  have HL := hid hL
  obtain ⟨N, hN⟩ : ∃ N, N = w.heap.size := ⟨_, rfl⟩
  rw [← hN] at hz1
  have HN := hid hN
  have HI : Hid ((ids f).length = L) := by unfold Hid; rw [← lst_ids, List.length_map, hL]
  clear h1 h2 h3 ha hL hN c1 x1
  go_loopw [3, 4] (fun v i wr => ∃ k : Nat, k ≤ L ∧ i = .int .i64 k ∧ OwnI wr N v ((ids f).take k) ∧ (k = 0 → v = .slice none 0 0) ∧ Fr (fun _ => False) w1 wr) (fun _ i _ => L - (intOf i).toNat)
  case atStart => exact ⟨0, by omega, rfl, OwnI.nil _ _, fun _ => rfl, Fr.refl _ _⟩
  case round =>
    obtain ⟨k, hk, rfl, ow, hnl, fr⟩ := hrel
    have OI := hid ow
    have NL := hid hnl
    have FR := hid fr
    have hk0 : (0 : Int) ≤ (k : Int) := by omega
    have c0 := (H1.out.fr fr (fun h => h)).c
    have hsz := fr.size
    clear ow hnl fr
    by_cases hlt : k < L
    · have hltI : (k : Int) < (L : Int) := by omega
      have hkl : k < (lst f).length := by have := HL.out; omega
      have hki : k < (ids f).length := by have := HI.out; omega
      obtain ⟨gb, rfl, _, hgl⟩ := HS.out (fun e => by rw [e] at hkl; simp at hkl)
      have c := ((OW.out.cell HL.out hkl).1.fr FR.out (fun h => h)).c
      have HT : Hid ((ids f).take (k + 1) = (ids f).take k ++ [(lst f)[k].1]) := by
        unfold Hid
        rw [List.take_succ_eq_append_getElem hki]
        have : (ids f)[k] = (lst f)[k].1 := by simp only [← lst_ids, List.getElem_map]
        rw [this]
      have hlen : ((ids f).take k).length = k := by rw [List.length_take]; omega
      generalize (lst f)[k].1 = y at *
      go_wp2_with (first
        | (at_builtin; refine wp_appI rfl rfl (v := u3) rfl (OI.out.fr ((Fr.refl (fun _ => False) _).alloc _) (fun _ _ h => h)) rfl (y := y) (At.new wr #[.int .i64 y] _ rfl).c (by omega) (by simp; omega) ?_; intro g cp w3 ow3 f3 hg3 hl3; go_frame)
        | go_in)
      rw [← HT.out] at ow3
      refine ⟨⟨k + 1, by omega, by go_num, ?_, fun h => by omega, (FR.out.alloc _).then f3 (fun i hi e => by have := (OI.out.lt e).1; omega)⟩, by simp [intOf]; omega⟩
      exact ow3
    · have hltI : ¬ (k : Int) < (L : Int) := by omega
      obtain rfl : k = L := by omega
      go_wp2_with fail
      go_ret
      have e : (ids f).take k = ids f := List.take_of_length_le (by have := HI.out; omega)
      have OI' := OI.out
      rw [e] at OI'
      refine ⟨_, rfl, by rw [← HN.out]; exact OI', fun h0 => NL.out (by rw [← HI.out, h0]; rfl), HA.out.frw FR.out (fun _ _ h => h), FA.out.then FR.out (fun _ _ h => h.elim)⟩

end Go.Proofs.Qxb6500450aGreat
