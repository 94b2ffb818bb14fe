/- The model's Del. -/
import Derived.Test.Qxb6500450aGreatMRow
namespace Go.Proofs.Qxb6500450aGreat
open Go Go.RowKit
set_option maxRecDepth 100000
set_option maxHeartbeats 1600000
set_option linter.unusedSimpArgs false
set_option linter.unusedVariables false

theorem mdel_any {w : World} {G : Nat → Prop} {bM : Nat} {f : DocF} {r : Int → Nat} (h : MR w G bM f r) (hG : ∀ i, G i → i < w.heap.size) (id : Int) :
    Calls Tryz.prog 89 #[.pointer (some ⟨bM, 0, none⟩), .int .i64 id] w fun e w' => e = .returned (.int .i64 (delE f id)) ∧ MR w' (fun i => G i ∨ w.heap.size ≤ i) bM (delD f id) r ∧ Fr (fun i => i = bM) w w' := by
  have H := hid h
  have HW := hid (h.wide (G' := fun i => G i ∨ w.heap.size ≤ i) (fun i hi => .inl hi))
  have HGG := hid hG
  clear h hG
  rcases hg : goodB id with _ | _
  · have HE : Hid (delE f id = 2) := by simp [Hid, delE, hg]
    have HN : Hid (delD f id = f) := delD_none (notGood H.out.ok hg)
    have hbad : id < 1 ∨ 9 < id := by simp [goodB] at hg; omega
    clear hg
    by_cases g1 : id < 1
    · clear hbad
      go_enter Tryz.func89, Tryz.ntmps89
      go_wp2_with fail
      go_ret
      rw [HE.out, HN.out]
      exact ⟨rfl, HW.out, Fr.refl _ _⟩
    · have g2 : 9 < id := by omega
      clear hbad
      go_enter Tryz.func89, Tryz.ntmps89
      go_wp2_with fail
      go_ret
      rw [HE.out, HN.out]
      exact ⟨rfl, HW.out, Fr.refl _ _⟩
  · have hgi : 1 ≤ id ∧ id ≤ 9 := by simpa [goodB] using hg
    obtain ⟨i1, i2⟩ := hgi
    obtain hf | ⟨d, hf⟩ := opt (f id)
    · have HE : Hid (delE f id = 6) := by simp [Hid, delE, hg, hf]
      have HN : Hid (delD f id = f) := delD_none hf
      have HF := hid hf
      clear hf hg
      go_enter Tryz.func89, Tryz.ntmps89
      go_wp2_with fail
      refine (mat_any H.out i1 i2).mono ?_
      rintro e w2 ⟨rfl, f2⟩
      rw [HF.out]
      have HM2 := hid (HW.out.frw f2 (fun _ _ h => h))
      have FB2 := hid f2
      clear f2
      go_wp2_with fail
      go_ret
      rw [HE.out, HN.out]
      exact ⟨rfl, HM2.out, FB2.out.mono (fun _ _ h => h.elim)⟩
    · have HE : Hid (delE f id = 0) := by simp [Hid, delE, hg, hf]
      have HF := hid hf
      clear hg
      go_enter Tryz.func89, Tryz.ntmps89
      go_wp2_with fail
      refine (mat_any H.out i1 i2).mono ?_
      rintro e w2 ⟨rfl, f2⟩
      rw [HF.out]
      have HM2 := hid (H.out.frw f2 (fun _ _ h => h))
      have FB2 := hid f2
      have hsz2 := f2.size
      obtain ⟨v, q1, q2, q3⟩ := HM2.out.row
      have hls := lst_some i1 i2 hf
      obtain ⟨a, cap, rfl, ha⟩ := q2.slice
      have hne : lst f ≠ [] := by rw [hls]; simp
      obtain ⟨gb, rfl, _, hgb⟩ := ha hne
      have Q2 := hid q2
      rw [hls] at Q2
      obtain ⟨L, hL⟩ : ∃ L, L = (part f (loN id) ++ (id, d.1, d.2) :: part f (hiN id)).length := ⟨_, rfl⟩
      rw [hls] at q1
      rw [← hL] at Q2 q1
      have hn9 : L ≤ 9 := by rw [hL, ← hls, lst_len]; exact nDocs_le f
      have hgm := q3 gb rfl
      have HGB : Hid (G gb ∧ gb ≠ bM) := hgm
      obtain ⟨w3, e3, o3, f3⟩ := make_docs w2 L (by omega)
      have O3 := hid o3
      have F3 := hid f3
      have HLS := hid hls
      have Q1 := hid q1
      have c0 := q1.c
      have c3 := (q1.fr f3 (fun h => h)).c
      have hbM2 : bM < w2.heap.size := q1.lt
      have hL' : L = (part f (loN id)).length + (1 + (part f (hiN id)).length) := by rw [hL]; simp; omega
      have hAe : atN f id = (part f (loN id)).length := rfl
      rw [hAe]
      obtain ⟨X, hX⟩ : ∃ X, X = part f (loN id) := ⟨_, rfl⟩
      obtain ⟨Y, hY⟩ : ∃ Y, Y = part f (hiN id) := ⟨_, rfl⟩
      have HXY : Hid (lst (delD f id) = X ++ Y) := by rw [hX, hY]; exact lst_del i1 i2
      rw [← hX, ← hY] at Q2
      rw [← hX, ← hY] at hL'
      rw [← hX]
      have HL := hid hL'
      have hXI : (X.length : Int) ≤ 9 := by omega
      clear hL'
      have HP : Hid (w.heap.size ≤ w2.heap.size) := hsz2
      have HB2 := hid hbM2
      obtain ⟨p, hp⟩ : ∃ p, p = w2.heap.size := ⟨_, rfl⟩
      rw [← hp] at e3 O3
      have HPP := hid hp
      clear o3 f3 q2 q1 q3 f2 ha hls hf hL hAe hX hY hgm hp hsz2 hbM2
      go_wp2_with (first
        | (refine wp_cutH rfl rfl (Q2.out.fr F3.out (fun _ _ h => h)) (A := X) rfl rfl rfl rfl ?_; intro xa ca pa na)
        | (at_builtin; refine wp_appD rfl rfl O3.out rfl rfl pa rfl rfl (by simp; have := HL.out; omega) (q := X.length) (by simp) ?_; intro w4 o4 f4; have c4 := ((Q1.out.fr F3.out (fun h => h)).fr f4 (fun e => by have := HB2.out; have := HPP.out; omega)).c)
        | (refine wp_cutL rfl rfl ((Q2.out.fr F3.out (fun _ _ h => h)).fr f4 (fun k hk e => by have := (Q2.out.lt hk).2; have := HPP.out; omega)) (A := X ++ [(id, d.1, d.2)]) (B := Y) (by simp) rfl rfl (by simp) ?_; intro xb cb pb nb)
        | (at_builtin; refine wp_appD rfl rfl o4 rfl rfl pb rfl rfl (by have := HL.out; omega) (q := X.length + Y.length) rfl ?_; intro w5 o5 f5; have c5 := (((Q1.out.fr F3.out (fun h => h)).fr f4 (fun e => by have := HB2.out; have := HPP.out; omega)).fr f5 (fun e => by have := HB2.out; have := HPP.out; omega)).c; have x5 := (((Q1.out.fr F3.out (fun h => h)).fr f4 (fun e => by have := HB2.out; have := HPP.out; omega)).fr f5 (fun e => by have := HB2.out; have := HPP.out; omega)).f)
        | go_in)
      go_ret
      rw [HE.out]
      have hpp := HPP.out
      have hp2 := HP.out
      have gN : ∀ i, G i → i ≠ p := fun i hi e => by have := HGG.out i hi; omega
      have hfa : Fr (fun _ => False) w w5 := ((((FB2.out.mono (S' := fun _ => False) (fun _ _ h => h)).trans F3.out).then f4 (fun i hi e => by omega)).then f5 (fun i hi e => by omega))
      refine ⟨rfl, ?_, (hfa.mono (S' := fun i => i = bM) (fun _ _ h => h.elim)).setCell (p := ⟨bM, 0, none⟩) (fun _ => rfl) _⟩
      have hm5 := ((HM2.out.frw F3.out (fun _ _ h => h)).frw f4 gN).frw f5 gN
      refine hm5.setRow (f' := delD f id) (by rw [HXY.out]; exact o5.zero) (fun k hk => ?_) (.inl H.out.gM) (H.out.ok.del id)
      simp [Value.ownBlock] at hk
      subst hk
      have := HB2.out
      exact ⟨.inr (by omega), by omega⟩

end Go.Proofs.Qxb6500450aGreat
