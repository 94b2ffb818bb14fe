/- The model of the ledger: Transfer. -/
import Derived.Test.Qxb6500452aWAsk
namespace Go.Proofs.Qxb6500452a
open Go Go.RowKit
set_option maxRecDepth 100000
set_option maxHeartbeats 1600000
set_option linter.unusedSimpArgs false
set_option linter.unusedVariables false

theorem mtransfer_any {w : World} {X M : Nat} {s : Led} (h : ML w X M s) (f t a : Int) :
    Calls Try.prog 103 #[.pointer (some ⟨X, 0, none⟩), .int .i64 f, .int .i64 t, .int .i64 a] w fun e w' => e = .returned (.tuple #[.int .i64 (trN s f t a), .int .i64 (trE s f t a)]) ∧ ML w' X M (trS s f t a) ∧ Fr (SM X M) w w' := by
  have d0 := h.m0.c
  have H := hid h
  clear h
  by_cases hc : chk f t a = 0
  rotate_left
  · have hE : trE s f t a = chk f t a := by unfold trE; rw [if_pos hc]
    have hN : trN s f t a = 0 := by unfold trN; rw [hE, if_neg hc]
    have hS : trS s f t a = clr s := by unfold trS; rw [if_pos hc]
    rw [hE, hN, hS]
    clear hE hN hS
    have hcb : (chk f t a != 0) = true := by simp [hc]
    clear hc
    go_enter Try.func103, Try.ntmps103
    go_wp2_with fail
    refine (mclear_any H.out.mt).mono ?_
    rintro e w1 ⟨rfl, r1, f1⟩
    have L1 := hid (H.out.lock r1 f1)
    have F1 : Hid (Fr (SM X M) w w1) := f1.mono (fun _ _ h => SM_of1 h)
    clear r1 f1
    go_wp2_with fail
    refine (mcheck_any f t a _).mono ?_
    rintro e w2 ⟨rfl, f2⟩
    have f2' : Fr (fun _ => False) w1 w2 := ((Fr.refl (fun _ => False) w1).alloc _).trans f2
    have L2 := hid (L1.out.fr f2' (fun _ _ h => h))
    have F2 : Hid (Fr (SM X M) w w2) := F1.out.then f2' (fun _ _ h => h.elim)
    clear f2 f2' F1 L1
    go_wp2_with fail
    go_ret2
    exact ⟨rfl, L2.out, F2.out⟩
  obtain ⟨hf0, hf4, ht0, ht4, a1, a2, hft⟩ : 0 ≤ f ∧ f < 4 ∧ 0 ≤ t ∧ t < 4 ∧ 1 ≤ a ∧ a ≤ 999 ∧ f ≠ t := by
    unfold chk at hc
    split at hc
    · rename_i hg
      obtain ⟨g1, g2, g3, g4⟩ := hg
      split at hc
      · cases hc
      · rename_i hne
        simp [goodB] at g1 g2
        exact ⟨g1.1, g1.2, g2.1, g2.2, g3, g4, hne⟩
    · cases hc
  obtain ⟨fn, rfl⟩ : ∃ n : Nat, f = (n : Int) := ⟨f.toNat, by omega⟩
  obtain ⟨tn, rfl⟩ : ∃ n : Nat, t = (n : Int) := ⟨t.toNat, by omega⟩
  have hf4' : fn < 4 := by omega
  have ht4' : tn < 4 := by omega
  have hft' : fn ≠ tn := by omega
  clear hft
  have HC := hid hc
  by_cases hp : prE s (fn : Int) (tn : Int) = 0
  rotate_left
  · have hE : trE s (fn : Int) (tn : Int) a = prE s (fn : Int) (tn : Int) := by unfold trE; rw [if_neg (fun h => h hc), if_pos hp]
    have hN : trN s (fn : Int) (tn : Int) a = 0 := by unfold trN; rw [hE, if_neg hp]
    have hS : trS s (fn : Int) (tn : Int) a = ⟨prS s (fn : Int) (tn : Int), s.bal, s.un⟩ := by unfold trS; rw [if_neg (fun h => h hc), if_pos hp]
    rw [hE, hN, hS]
    have hpb : ((L.pair (L.clear s.lk) (fn : Int) (tn : Int)).2.2.1 != 0) = true := by simp; exact hp
    clear hE hN hS hc hp
    go_enter Try.func103, Try.ntmps103
    go_wp2_with fail
    refine (mclear_any H.out.mt).mono ?_
    rintro e w1 ⟨rfl, r1, f1⟩
    have L1 := hid (H.out.lock r1 f1)
    have F1 : Hid (Fr (SM X M) w w1) := f1.mono (fun _ _ h => SM_of1 h)
    clear r1 f1
    go_wp2_with fail
    refine (mcheck_any (fn : Int) (tn : Int) a _).mono ?_
    rintro e w2 ⟨rfl, f2⟩
    have f2' : Fr (fun _ => False) w1 w2 := ((Fr.refl (fun _ => False) w1).alloc _).trans f2
    have L2 := hid (L1.out.fr f2' (fun _ _ h => h))
    have F2 : Hid (Fr (SM X M) w w2) := F1.out.then f2' (fun _ _ h => h.elim)
    rw [HC.out]
    have M0 := hid ((At.new w1 #[.int .i64 (fn : Int), .int .i64 (tn : Int), .int .i64 a] 56 (o := 0) rfl).fr f2 (fun h => h))
    have M1 := hid ((At.new w1 #[.int .i64 (fn : Int), .int .i64 (tn : Int), .int .i64 a] 56 (o := 1) rfl).fr f2 (fun h => h))
    have M2 := hid ((At.new w1 #[.int .i64 (fn : Int), .int .i64 (tn : Int), .int .i64 a] 56 (o := 2) rfl).fr f2 (fun h => h))
    have HPM : Hid (¬ SM X M w1.heap.size) := fun c => by have := L1.out.lt _ c; omega
    generalize w1.heap.size = pm at *
    have d0 := L2.out.m0.c
    clear f2 f2' F1 L1
    go_wp2_with fail
    refine (mpair_any L2.out.mt (fn : Int) (tn : Int)).mono ?_
    rintro e w3 ⟨rfl, r3, f3⟩
    have L3 := hid (L2.out.lock r3 f3)
    have F3 : Hid (Fr (SM X M) w w3) := F2.out.trans (f3.mono (fun _ _ h => SM_of1 h))
    clear r3 f3 F2 L2
    go_wp2_with fail
    go_ret2
    exact ⟨rfl, L3.out, F3.out⟩
  · have HPE : Hid ((L.pair (L.clear s.lk) (fn : Int) (tn : Int)).2.2.1 = 0) := hp
    have HPS : Hid ((L.pair (L.clear s.lk) (fn : Int) (tn : Int)).2.2.2 = prS s (fn : Int) (tn : Int)) := rfl
    have hE : trE s (fn : Int) (tn : Int) a = payE s.bal fn tn a := by unfold trE; rw [if_neg (fun h => h hc), if_neg (fun h => h hp)]; simp
    have hN : trN s (fn : Int) (tn : Int) a = if payE s.bal fn tn a = 0 then payM s.bal fn tn a fn else 0 := by
      unfold trN payM; rw [hE]; split <;> simp
    have hS : trS s (fn : Int) (tn : Int) a = ⟨relAll [(L.pair (L.clear s.lk) (fn : Int) (tn : Int)).2.1, (L.pair (L.clear s.lk) (fn : Int) (tn : Int)).1] (prS s (fn : Int) (tn : Int)), payM s.bal fn tn a, (if payE s.bal fn tn a = 7 then bump s.un else s.un)⟩ := by unfold trS payM; rw [if_neg (fun h => h hc), if_neg (fun h => h hp)]; simp
    rw [hE, hN, hS]
    clear hE hN hS hp hc
    have hbl := H.out.bl
    have HTOT : Hid (sum4 (payM s.bal fn tn a) = 400) := by
      unfold Hid payM
      split
      · rename_i he; exact (sum_pay hf4' ht4' hft' he).trans H.out.tot
      · exact H.out.tot
    have HBL : Hid (∀ k, k < 4 → 0 ≤ payM s.bal fn tn a k ∧ payM s.bal fn tn a k ≤ 250) := by
      unfold Hid payM
      split
      · exact payB_ok H.out.bl hf4' ht4' a1
      · exact H.out.bl
    have HP := hid (fun (W : World) hW => mpay_any (w := W) (B := X) (off := 1) (bal := s.bal) hW hf4' ht4' hft' a1 a2 hbl)
    clear hbl
    have h06 : payE s.bal fn tn a = 0 ∨ payE s.bal fn tn a = 6 ∨ payE s.bal fn tn a = 7 := by
      unfold payE; split
      · exact .inr (.inl rfl)
      · split
        · exact .inr (.inr rfl)
        · exact .inl rfl
    generalize hpe : payE s.bal fn tn a = pe at *
    generalize hpm : payM s.bal fn tn a = pb at *
    clear hpe hpm
    generalize hrn : (if pe = 0 then pb fn else 0) = rn
    have HRN := hid hrn
    clear hrn
    generalize hst : (⟨relAll [(L.pair (L.clear s.lk) (fn : Int) (tn : Int)).2.1, (L.pair (L.clear s.lk) (fn : Int) (tn : Int)).1] (prS s (fn : Int) (tn : Int)), pb, (if pe = 7 then bump s.un else s.un)⟩ : Led) = st'
    have HST := hid hst
    clear hst
    have H06 := hid h06
    clear h06
    go_enter Try.func103, Try.ntmps103
    go_wp2_with fail
    refine (mclear_any H.out.mt).mono ?_
    rintro e w1 ⟨rfl, r1, f1⟩
    have L1 := hid (H.out.lock r1 f1)
    have F1 : Hid (Fr (SM X M) w w1) := f1.mono (fun _ _ h => SM_of1 h)
    clear r1 f1
    go_wp2_with fail
    refine (mcheck_any (fn : Int) (tn : Int) a _).mono ?_
    rintro e w2 ⟨rfl, f2⟩
    have f2' : Fr (fun _ => False) w1 w2 := ((Fr.refl (fun _ => False) w1).alloc _).trans f2
    have L2 := hid (L1.out.fr f2' (fun _ _ h => h))
    have F2 : Hid (Fr (SM X M) w w2) := F1.out.then f2' (fun _ _ h => h.elim)
    rw [HC.out]
    have M0 := hid ((At.new w1 #[.int .i64 (fn : Int), .int .i64 (tn : Int), .int .i64 a] 56 (o := 0) rfl).fr f2 (fun h => h))
    have M1 := hid ((At.new w1 #[.int .i64 (fn : Int), .int .i64 (tn : Int), .int .i64 a] 56 (o := 1) rfl).fr f2 (fun h => h))
    have M2 := hid ((At.new w1 #[.int .i64 (fn : Int), .int .i64 (tn : Int), .int .i64 a] 56 (o := 2) rfl).fr f2 (fun h => h))
    have HPM : Hid (¬ SM X M w1.heap.size) := fun c => by have := L1.out.lt _ c; omega
    generalize w1.heap.size = pm at *
    have d0 := L2.out.m0.c
    clear f2 f2' F1 L1
    go_wp2_with fail
    refine (mpair_any L2.out.mt (fn : Int) (tn : Int)).mono ?_
    rintro e w3 ⟨rfl, r3, f3⟩
    have L3 := hid (L2.out.lock r3 f3)
    have F3 : Hid (Fr (SM X M) w w3) := F2.out.trans (f3.mono (fun _ _ h => SM_of1 h))
    rw [HPE.out]
    have N0 := hid (M0.out.fr f3 (fun c => HPM.out (SM_of1 c)))
    have N1 := hid (M1.out.fr f3 (fun c => HPM.out (SM_of1 c)))
    have N2 := hid (M2.out.fr f3 (fun c => HPM.out (SM_of1 c)))
    have d0 := L3.out.m0.c
    clear r3 f3 F2 L2 M0 M1 M2
    have n0 : w3.cell? ⟨pm, 0, none⟩ = some (.int .i64 (fn : Int)) := N0.out.c
    have n1 : w3.cell? ⟨pm, 1, none⟩ = some (.int .i64 (tn : Int)) := N1.out.c
    have n2 : w3.cell? ⟨pm, 2, none⟩ = some (.int .i64 a) := N2.out.c
    go_upto_region 9 with fail
    go_region_held3 (fun W => W.cell? ⟨pm, 0, none⟩ = some (.int .i64 (fn : Int)) ∧ W.cell? ⟨pm, 1, none⟩ = some (.int .i64 (tn : Int)) ∧ W.cell? ⟨pm, 2, none⟩ = some (.int .i64 a)) (go_keep) (first | (go_at_call 112; refine (HP.out _ (fun k hk => (L3.out.mb k hk).drew)).mono ?_; rintro e y ⟨rfl, yb, yo, gy⟩; have y0 : y.cell? ⟨pm, 0, none⟩ = some (.int .i64 (fn : Int)) := cellFr gy (fun e => HPM.out (.inl e)) (by simp [*]); have y1 : y.cell? ⟨pm, 1, none⟩ = some (.int .i64 (tn : Int)) := cellFr gy (fun e => HPM.out (.inl e)) (by simp [*]); have y2 : y.cell? ⟨pm, 2, none⟩ = some (.int .i64 a) := cellFr gy (fun e => HPM.out (.inl e)) (by simp [*])))
    have L4 : Hid (ML y X M ⟨prS s (fn : Int) (tn : Int), pb, s.un⟩) := by
      have L3' := L3.out
      rw [HPS.out] at L3'
      have l4 := L3'.fr ((Fr.refl (fun _ => False) w3).drew) (fun _ _ h => h)
      exact ⟨yo 0 _ (by omega) l4.m0, yb, yo 5 _ (by omega) l4.mu, l4.mt.fr gy (fun e => l4.ne e.symm), l4.ne, HBL.out, l4.ul, HTOT.out⟩
    have F4 : Hid (Fr (SM X M) w y) := (F3.out.trans ((Fr.refl (SM X M) w3).drew)).trans (gy.mono (fun _ _ h => .inl h))
    have u5 : y.cell? ⟨X, 5, none⟩ = some (.int .i64 (s.un : Int)) := L4.out.mu.c
    have u5f := L4.out.mu.f
    have d4 := L4.out.m0.c
    have HU : Hid (s.un ≤ 99) := H.out.ul
    clear yb yo gy n0 n1 n2 y0 y1 y2 N0 N1 N2 F3 L3
    clear HP
    rcases H06.out with rfl | rfl | rfl
    · clear H06
      go_wp2_with fail
      refine (mrelease_any L4.out.mt _).mono ?_
      rintro e w5 ⟨rfl, r5, f5⟩
      have L5 := hid (L4.out.lock r5 f5)
      have F5 : Hid (Fr (SM X M) w w5) := F4.out.trans (f5.mono (fun _ _ h => SM_of1 h))
      have d5 := L5.out.m0.c
      clear r5 f5 u5 u5f d4
      go_wp2_with fail
      refine (mrelease_any L5.out.mt _).mono ?_
      rintro e w6 ⟨rfl, r6, f6⟩
      have L6 := hid (L5.out.lock r6 f6)
      have F6 : Hid (Fr (SM X M) w w6) := F5.out.trans (f6.mono (fun _ _ h => SM_of1 h))
      have c6 := (L6.out.mb fn hf4').c
      simp only at c6
      clear r6 f6 d5
      go_wp2_with fail
      go_ret2
      rw [← HRN.out, ← HST.out]
      exact ⟨rfl, L6.out, F6.out⟩
    · clear H06
      go_wp2_with fail
      refine (mrelease_any L4.out.mt _).mono ?_
      rintro e w5 ⟨rfl, r5, f5⟩
      have L5 := hid (L4.out.lock r5 f5)
      have F5 : Hid (Fr (SM X M) w w5) := F4.out.trans (f5.mono (fun _ _ h => SM_of1 h))
      have d5 := L5.out.m0.c
      clear r5 f5 u5 u5f d4
      go_wp2_with fail
      refine (mrelease_any L5.out.mt _).mono ?_
      rintro e w6 ⟨rfl, r6, f6⟩
      have L6 := hid (L5.out.lock r6 f6)
      have F6 : Hid (Fr (SM X M) w w6) := F5.out.trans (f6.mono (fun _ _ h => SM_of1 h))
      have c6 := (L6.out.mb fn hf4').c
      simp only at c6
      clear r6 f6 d5
      go_wp2_with fail
      go_ret2
      rw [← HRN.out, ← HST.out]
      exact ⟨rfl, L6.out, F6.out⟩
    · clear H06
      rw [if_pos rfl] at HST
      rw [if_neg (by decide)] at HRN
      go_wp2_with fail
      refine (bump_any s.un y).mono ?_
      rintro e w4 ⟨rfl, hw4⟩
      obtain rfl := hw4.symm
      have L45 : Hid (ML (y.setCell ⟨X, 5, none⟩ (.int .i64 (bump s.un : Int))) X M ⟨prS s (fn : Int) (tn : Int), pb, bump s.un⟩) := by
        have l4 := L4.out
        exact ⟨l4.m0.other (by omega) _, fun k hk => (l4.mb k hk).other (by omega) _, l4.mu.same _, l4.mt.fr ((Fr.refl (fun i => i = X) y).setCell (p := ⟨X, 5, none⟩) (fun _ => rfl) _) (fun e => l4.ne e.symm), l4.ne, l4.bl, by show bump s.un ≤ 99; unfold bump; have := HU.out; split <;> omega, l4.tot⟩
      have F45 : Hid (Fr (SM X M) w (y.setCell ⟨X, 5, none⟩ (.int .i64 (bump s.un : Int)))) := F4.out.setCell (p := ⟨X, 5, none⟩) (fun _ => .inl rfl) _
      have d45 := L45.out.m0.c
      clear L4 F4
      generalize bump s.un = bu at *
      go_upto_region 12 with fail
      generalize y.setCell ⟨X, 5, none⟩ (.int .i64 (bu : Int)) = y5 at *
      go_wp2_with fail
      refine (mrelease_any L45.out.mt _).mono ?_
      rintro e w5 ⟨rfl, r5, f5⟩
      have L5 := hid (L45.out.lock r5 f5)
      have F5 : Hid (Fr (SM X M) w w5) := F45.out.trans (f5.mono (fun _ _ h => SM_of1 h))
      have d5 := L5.out.m0.c
      clear r5 f5 u5 u5f d4
      go_wp2_with fail
      refine (mrelease_any L5.out.mt _).mono ?_
      rintro e w6 ⟨rfl, r6, f6⟩
      have L6 := hid (L5.out.lock r6 f6)
      have F6 : Hid (Fr (SM X M) w w6) := F5.out.trans (f6.mono (fun _ _ h => SM_of1 h))
      have c6 := (L6.out.mb fn hf4').c
      simp only at c6
      clear r6 f6 d5
      go_wp2_with fail
      go_ret2
      rw [← HRN.out, ← HST.out]
      exact ⟨rfl, L6.out, F6.out⟩

end Go.Proofs.Qxb6500452a
