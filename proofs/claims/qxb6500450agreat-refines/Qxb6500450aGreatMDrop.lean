/- The model's DropGroup. -/
import Derived.Test.Qxb6500450aGreatMDel
namespace Go.Proofs.Qxb6500450aGreat
open Go Go.RowKit
set_option maxRecDepth 100000
set_option maxHeartbeats 1600000
set_option linter.unusedSimpArgs false
set_option linter.unusedVariables false

theorem mdrop_any {w : World} {G : Nat → Prop} {bM : Nat} {f : DocF} {r : Int → Nat} (h : MR w G bM f r) (hG : ∀ i, G i → i < w.heap.size) (g : Int) :
    Calls Tryz.prog 90 #[.pointer (some ⟨bM, 0, none⟩), .int .i64 g] w fun e w' => e = .returned (.int .i64 (cnt f g : Int)) ∧ MR w' (fun i => G i ∨ w.heap.size ≤ i) bM (dropD f g) r ∧ Fr (fun i => i = bM) w w' := by
  have H := hid h
  have HGG := hid hG
  have hn9 : (lst f).length ≤ 9 := by rw [lst_len]; exact nDocs_le f
  obtain ⟨v, h1, h2, h3⟩ := h.row
  obtain ⟨a, cap, rfl, ha⟩ := h2.slice
  have OW := hid h2
  have HS := hid ha
  have H1 := hid h1
  have HK := hid h3
  have hbl := h.lt
  have HBL := hid hbl
  obtain ⟨L, hL⟩ : ∃ L, L = (lst f).length := ⟨_, rfl⟩
  rw [← hL] at hn9 OW H1
  have HL := hid hL
  obtain ⟨N, hN⟩ : ∃ N, N = w.heap.size := ⟨_, rfl⟩
  have HN := hid hN
  clear h h1 h2 h3 ha hL hN hG hbl
  go_enter Tryz.func90, Tryz.ntmps90
  go_wp2_with fail
  go_loopw [5, 6] (fun v i wr => ∃ k : Nat, k ≤ L ∧ i = .int .i64 k ∧ OwnD wr N v (((lst f).take k).filter (fun x => x.2.1 != g)) ∧ Fr (fun _ => False) w wr) (fun _ i _ => L - (intOf i).toNat)
  case atStart => exact ⟨0, by omega, rfl, OwnD.nil _ _, Fr.refl _ _⟩
  case round =>
    obtain ⟨k, hk, rfl, ow, fr⟩ := hrel
    have OD := hid ow
    have FR := hid fr
    have hk0 : (0 : Int) ≤ (k : Int) := by omega
    have c0 := (H1.out.fr fr (fun h => h)).c
    have x0 := (H1.out.fr fr (fun h => h)).f
    have hsz := fr.size
    clear ow fr
    by_cases hlt : k < L
    · have hltI : (k : Int) < (L : Int) := by omega
      have hkl : k < (lst f).length := by have := HL.out; omega
      obtain ⟨gb, rfl, _, hgl⟩ := HS.out (fun e => by rw [e] at hkl; simp at hkl)
      obtain ⟨a0, a1, a2⟩ := OW.out.cell HL.out hkl
      have d0 := (a0.fr FR.out (fun h => h)).c
      have d1 := (a1.fr FR.out (fun h => h)).c
      have d2 := (a2.fr FR.out (fun h => h)).c
      have HT : Hid (((lst f).take (k + 1)).filter (fun x => x.2.1 != g) = ((lst f).take k).filter (fun x => x.2.1 != g) ++ [(lst f)[k]].filter (fun x => x.2.1 != g)) := by
        unfold Hid
        rw [List.take_succ_eq_append_getElem hkl, List.filter_append]
      have hlen : (((lst f).take k).filter (fun x => x.2.1 != g)).length ≤ 9 := by
        have h1 := List.length_filter_le (fun x : D3 => x.2.1 != g) ((lst f).take k)
        have h2 : ((lst f).take k).length ≤ k := List.length_take_le _ _
        omega
      clear a0 a1 a2
      generalize (lst f)[k] = y at *
      obtain ⟨y1, y2, y3⟩ := y
      simp only at d0 d1 d2
      by_cases hy : y2 = g
      · have hyb : (y2 == g) = true := by simp [hy]
        have E : Hid (((lst f).take (k + 1)).filter (fun x => x.2.1 != g) = ((lst f).take k).filter (fun x => x.2.1 != g)) := by
          unfold Hid; rw [HT.out]; simp [hy]
        clear HT
        subst hy
        go_wp2_with fail
        exact ⟨⟨k + 1, by omega, by go_num, by rw [E.out]; exact OD.out, FR.out⟩, by simp [intOf]; omega⟩
      · have hyb : (y2 == g) = false := by simp [hy]
        have E : Hid (((lst f).take (k + 1)).filter (fun x => x.2.1 != g) = ((lst f).take k).filter (fun x => x.2.1 != g) ++ [(y1, y2, y3)]) := by
          unfold Hid; rw [HT.out]; simp [hy]
        clear HT hy
        go_wp2_with (first
          | (at_builtin; refine wp_appG rfl rfl (v := u5) rfl (OD.out.fr ((Fr.refl (fun _ => False) _).alloc _) (fun _ _ h => h)) rfl (y := (y1, y2, y3)) (At.new wr #[.int .i64 y1, .int .i64 y2, .string y3] _ rfl).c (At.new wr #[.int .i64 y1, .int .i64 y2, .string y3] _ rfl).c (At.new wr #[.int .i64 y1, .int .i64 y2, .string y3] _ rfl).c (by omega) (by simp; have := HN.out; omega) ?_; intro gg cp w3 ow3 f3 hg3 hl3; go_frame)
          | go_in)
        rw [← E.out] at ow3
        refine ⟨⟨k + 1, by omega, by go_num, ?_, (FR.out.alloc _).then f3 (fun i hi e => by have := (OD.out.lt e).1; have := HN.out; omega)⟩, by simp [intOf]; omega⟩
        exact ow3
    · have hltI : ¬ (k : Int) < (L : Int) := by omega
      obtain rfl : k = L := by omega
      have e : (lst f).take k = lst f := List.take_of_length_le (by have := HL.out; omega)
      have OD' := OD.out
      rw [e, ← lst_drop] at OD'
      have OD2 := hid OD'
      obtain ⟨a2, cap2, rfl, ha2⟩ := OD'.slice
      have hle : (lst (dropD f g)).length ≤ k := by
        have h1 := HL.out
        rw [lst_drop] 
        have := List.length_filter_le (fun x : D3 => x.2.1 != g) (lst f)
        omega
      have HC : Hid ((k : Int) - ((lst (dropD f g)).length : Int) = (cnt f g : Int)) := by
        unfold Hid
        have h1 := nDocs_drop f g
        have h2 := HL.out
        rw [lst_len] at h2
        rw [lst_len]
        omega
      obtain ⟨M, hM⟩ : ∃ M, M = (lst (dropD f g)).length := ⟨_, rfl⟩
      rw [← hM] at OD2 hle HC ⊢
      clear OD' ha2 OD e hM
      have hM0 : (0 : Int) ≤ (M : Int) := by omega
      have hMk : (M : Int) ≤ (k : Int) := by omega
      have hk9 : (k : Int) ≤ 9 := by omega
      go_wp2_with fail
      go_ret
      refine ⟨congrArg (fun x => Ending.returned (.int .i64 x)) HC.out, ?_, (FR.out.mono (S' := fun i => i = bM) (fun _ _ h => h.elim)).setCell (p := ⟨bM, 0, none⟩) (fun _ => rfl) _⟩
      refine ((H.out.frw FR.out (fun _ _ h => h)).wide (G' := fun i => G i ∨ w.heap.size ≤ i) (fun i hi => .inl hi)).setRow OD2.out.zero (fun i hi => ?_) (.inl H.out.gM) (H.out.ok.drop g)
      have := (OD2.out.lt hi).1
      have := HN.out
      have := HBL.out
      exact ⟨.inr (by omega), by omega⟩

end Go.Proofs.Qxb6500450aGreat
