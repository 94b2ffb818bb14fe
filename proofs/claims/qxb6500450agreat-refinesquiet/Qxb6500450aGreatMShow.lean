/- The model's Show. -/
import Derived.Test.Qxb6500450aGreatMIds
namespace Go.Proofs.Qxb6500450aGreat
open Go Go.RowKit
set_option maxRecDepth 100000
set_option maxHeartbeats 1600000
set_option linter.unusedSimpArgs false
set_option linter.unusedVariables false

theorem mshow_any {w : World} {G : Nat → Prop} {bM : Nat} {f : DocF} {r : Int → Nat} (h : MR w G bM f r) (hG : ∀ i, G i → i < w.heap.size) (hr : ∀ k, r k < 4611686018427387904) :
    Calls Tryz.prog 75 #[.pointer (some ⟨bM, 0, none⟩)] w fun e w' => e = .returned (.string (bs (showL f r))) ∧ MR w' G bM f r ∧ Fr (fun i => i = bM) w w' := by
  obtain ⟨x, h4⟩ := h.ask
  have c1 := h4.c
  have x1 := h4.f
  have HGG := hid hG
  have HR := hid hr
  have HO := hid h.ok
  have HA := hid (h.asked (wrap64 (x + 1)))
  have FA := hid ((Fr.refl (fun i => i = bM) w).setCell (p := ⟨bM, 11, none⟩) (fun _ => rfl) (.int .i64 (wrap64 (x + 1))))
  have hz1 : (w.setCell ⟨bM, 11, none⟩ (.int .i64 (wrap64 (x + 1)))).heap.size = w.heap.size := by simp
  have hn9 : (lst f).length ≤ 9 := by rw [lst_len]; exact nDocs_le f
  clear h h4 hG hr
  go_enter Tryz.func75, Tryz.ntmps75
  go_wp2_with fail
  generalize w.setCell ⟨bM, 11, none⟩ (.int .i64 (wrap64 (x + 1))) = w1 at *
  obtain ⟨v, h1, h2, h3⟩ := HA.out.row
  obtain ⟨a, cap, rfl, ha⟩ := h2.slice
  have OW := hid h2
  have HS := hid ha
  have H1 := hid h1
  obtain ⟨L, hL⟩ : ∃ L, L = (lst f).length := ⟨_, rfl⟩
  rw [← hL] at hn9 OW H1
  have HL := hid hL
  have HI : Hid ((ids f).length = L) := by unfold Hid; rw [← lst_ids, List.length_map, hL]
  clear h1 h2 h3 ha hL c1 x1
  go_loopw [3, 4] (fun t i wr => ∃ k : Nat, k ≤ L ∧ i = .int .i64 k ∧ t = .string (bs (docsB f ((ids f).take k))) ∧ Fr (fun _ => False) w1 wr) (fun _ i _ => L - (intOf i).toNat)
  case atStart => exact ⟨0, by omega, rfl, rfl, Fr.refl _ _⟩
  case round =>
    obtain ⟨k, hk, rfl, rfl, fr⟩ := hrel
    have FR := hid fr
    have hk0 : (0 : Int) ≤ (k : Int) := by omega
    have c0 := (H1.out.fr fr (fun h => h)).c
    have hz : (bs (docsB f ((ids f).take k))).size ≤ 1000 := by
      rw [bs_size]
      have h1 := docsB_len HO.out ((ids f).take k)
      have h2 : ((ids f).take k).length ≤ k := List.length_take_le _ _
      omega
    clear fr
    by_cases hlt : k < L
    · have hltI : (k : Int) < (L : Int) := by omega
      have hkl : k < (lst f).length := by have := HL.out; omega
      have hki : k < (ids f).length := by have := HI.out; omega
      obtain ⟨gb, rfl, _, hgl⟩ := HS.out (fun e => by rw [e] at hkl; simp at hkl)
      have RC := hid (OW.out.cell HL.out hkl)
      have hm := (part_mem (List.getElem_mem hkl)).2
      have hrg := HO.out.rng _ _ hm
      have HT : Hid (docsB f ((ids f).take (k + 1)) = docsB f ((ids f).take k) ++ (itoa (lst f)[k].1 ++ [47] ++ itoa (lst f)[k].2.1 ++ [47] ++ (lst f)[k].2.2.data.toList ++ [59])) := by
        unfold Hid
        rw [List.take_succ_eq_append_getElem hki, docsB_snoc]
        have : (ids f)[k] = (lst f)[k].1 := by simp only [← lst_ids, List.getElem_map]
        rw [this]
        unfold docB
        rw [hm]
      clear hm
      generalize (lst f)[k] = d at *
      obtain ⟨x1, x2, d1, d2, d3⟩ := hrg
      have R0 := hid (RC.out.1.fr FR.out (fun h => h))
      have q0 := R0.out.c
      have z1 : (bs (itoa d.1)).size ≤ 21 := by rw [bs_size]; exact itoa_len _
      have z2 : (bs (itoa d.2.1)).size ≤ 21 := by rw [bs_size]; exact itoa_len _
      simp only at d1 d2 d3
      go_wp2_with fail
      refine (itoa_any d.1 _ (by omega) (by omega)).mono ?_
      rintro e w2 ⟨rfl, f2⟩
      have FR2 := hid (FR.out.trans f2)
      have q1 := (RC.out.2.1.fr FR2.out (fun h => h)).c
      have c0 := (H1.out.fr FR2.out (fun h => h)).c
      clear f2 q0 R0
      go_wp2_with fail
      refine (itoa_any d.2.1 _ (by omega) (by omega)).mono ?_
      rintro e w3 ⟨rfl, f3⟩
      have FR3 := hid (FR2.out.trans f3)
      have q2 := (RC.out.2.2.fr FR3.out (fun h => h)).c
      have c0 := (H1.out.fr FR3.out (fun h => h)).c
      clear f3 q1
      go_wp2_with fail
      refine ⟨⟨k + 1, by omega, by go_num, ?_, FR3.out⟩, by simp [intOf]; omega⟩
      rw [HT.out, ← bs_append, ← bs_append, ← bs_append, ← bs_append, ← bs_append, ← bs_append, bs_eta]
      simp only [ByteArray.append_assoc]
      rfl
    · have hltI : ¬ (k : Int) < (L : Int) := by omega
      have e : (ids f).take k = ids f := List.take_of_length_le (by have := HI.out; omega)
      rw [e] at hz ⊢
      clear e
      have HA2 := hid (HA.out.frw FR.out (fun _ _ h => h))
      have FA2 := hid (FA.out.then FR.out (fun _ _ h => h.elim))
      have hI : ∀ n ∈ revL r, I64 n := fun n hn => by
        simp only [revL, List.mem_map] at hn
        obtain ⟨i, _, rfl⟩ := hn
        have := HR.out ((i : Int) + 1)
        unfold I64; omega
      have HIR : Hid (IntsAt wr (some ⟨bM, 2, none⟩) (revL r)) := by
        refine ⟨hI, .inr ⟨bM, 2, rfl, HA2.out.lt, fun i hi => ?_⟩⟩
        have hi9 : i < 9 := by simpa [revL] using hi
        have := (HA2.out.rev (i + 1) (by omega)).c
        rw [show 2 + i = 1 + (i + 1) from by omega, this]
        simp [revL, List.getD, hi9]
      clear hI
      go_wp2_with fail
      have hc := ints_any (l := revL r) 9 HIR.out (by simp [revL])
      rw [show ((revL r).length) = 9 from by simp [revL]] at hc
      refine hc.mono ?_
      clear hc
      rintro e w5 ⟨rfl, f5⟩
      have HA5 := hid (HA2.out.frw f5 (fun _ _ h => h))
      have FA5 := hid (FA2.out.then f5 (fun _ _ h => h.elim))
      have y1 : (bs (ints (revL r))).size ≤ 1000 := by
        rw [bs_size]
        have := ints_len (revL r)
        have e : (revL r).length = 9 := by simp [revL]
        omega
      clear f5 HA2 FA2 HIR HA FA FR c0 OW HS H1
      obtain ⟨N, hN⟩ : ∃ N, N = w5.heap.size := ⟨_, rfl⟩
      have HN := hid hN
      clear hN
      go_wp2_with fail
      go_loopw [8, 9] (fun v i wr => ∃ j : Nat, j ≤ 3 ∧ i = .int .i64 j ∧ OwnI wr N v ((grpL f).take j) ∧ MR wr G bM f r ∧ Fr (fun i => i = bM) w wr ∧ N ≤ wr.heap.size) (fun _ i _ => 3 - (intOf i).toNat)
      case atStart => exact ⟨0, by omega, rfl, OwnI.nil _ _, HA5.out, FA5.out, by rw [HN.out]; exact Nat.le_refl _⟩
      case round =>
        have HNW : Hid (w.heap.size ≤ N) := by have := FA5.out.size; have := HN.out; unfold Hid; omega
        clear HA5 FA5
        obtain ⟨j, hj, rfl, ow, hm, fr, hsz⟩ := hrel
        have OI := hid ow
        have HM := hid hm
        have FR := hid fr
        have hj0 : (0 : Int) ≤ (j : Int) := by omega
        clear ow hm fr
        by_cases hlt3 : j < 3
        · have hj3 : (j : Int) ≤ 2 := by omega
          go_wp2_with fail
          refine (mingroup_any HM.out (j : Int)).mono ?_
          rintro e w6 ⟨rfl, hm6, f6⟩
          have HM6 := hid hm6
          have F6 := hid (FR.out.then f6 (fun _ _ h => h))
          have hbN : bM < N := Nat.lt_of_lt_of_le (HGG.out _ HM.out.gM) HNW.out
          have OI6 := hid (OI.out.fr f6 (fun k hk e => by have := (OI.out.lt hk).1; omega))
          have hs6 : N ≤ w6.heap.size := Nat.le_trans hsz f6.size
          have HT : Hid ((grpL f).take (j + 1) = (grpL f).take j ++ [(cnt f (j : Int) : Int)]) := by
            unfold Hid
            rw [List.take_succ_eq_append_getElem (by simp [grpL]; omega)]
            simp [grpL]
          have hlen : ((grpL f).take j).length = j := by simp [grpL]; omega
          clear hm6 f6 OI HM FR
          go_wp2_with (first
            | (at_builtin; refine wp_appI rfl rfl (v := u8) rfl (OI6.out.fr ((Fr.refl (fun _ => False) _).alloc _) (fun _ _ h => h)) rfl (y := (cnt f (j : Int) : Int)) (At.new w6 #[.int .i64 (cnt f (j : Int) : Int)] _ rfl).c (by omega) (by simp; omega) ?_; intro g cp w7 ow7 f7 hg7 hl7; go_frame)
            | go_in)
          rw [← HT.out] at ow7
          have nG : ∀ k, u8.ownBlock = some k → ¬ G k := fun k hk hg => by have := (OI6.out.lt hk).1; have := HGG.out k hg; have := HNW.out; omega
          refine ⟨⟨j + 1, by omega, by go_num, ow7, ?_, ?_, ?_⟩, by simp [intOf]; omega⟩
          · exact (HM6.out.frw ((Fr.refl (fun _ => False) _).alloc _) (fun _ _ h => h)).frw f7 (fun i hi e => nG i e hi)
          · exact (F6.out.alloc _).then f7 (fun i hi e => by have := (OI6.out.lt e).1; have := HNW.out; omega)
          · have := f7.size; simp only [World.size_alloc] at this; omega
        · have hj3 : ¬ (j : Int) ≤ 2 := by omega
          obtain rfl : j = 3 := by omega
          have e3 : (grpL f).take 3 = grpL f := List.take_of_length_le (by simp [grpL])
          rw [e3] at OI
          have hGI : ∀ n ∈ grpL f, I64 n := fun n hn => by
            simp only [grpL, List.mem_map] at hn
            obtain ⟨i, _, rfl⟩ := hn
            have := cnt_le f (i : Int)
            have := nDocs_le f
            unfold I64; omega
          obtain ⟨ga, gc, hge, hgi⟩ := OI.out.ints hGI
          rw [show (grpL f).length = 3 from by simp [grpL]] at hge
          subst hge
          have HIG := hid hgi
          have y2 : (bs (ints (grpL f))).size ≤ 1000 := by
            rw [bs_size]
            have := ints_len (grpL f)
            have e : (grpL f).length = 3 := by simp [grpL]
            omega
          clear hgi hGI e3 OI
          go_wp2_with fail
          have hc := ints_any (l := grpL f) gc HIG.out (by simp [grpL])
          rw [show (grpL f).length = 3 from by simp [grpL]] at hc
          refine hc.mono ?_
          clear hc
          rintro e w8 ⟨rfl, f8⟩
          have HM8 := hid (HM.out.frw f8 (fun _ _ h => h))
          have F8 := hid (FR.out.then f8 (fun _ _ h => h.elim))
          clear f8 HIG
          go_wp2_with fail
          go_ret
          refine ⟨?_, HM8.out, F8.out⟩
          unfold showL
          rw [← bs_append, ← bs_append, ← bs_append, ← bs_append]
          rfl

end Go.Proofs.Qxb6500450aGreat
