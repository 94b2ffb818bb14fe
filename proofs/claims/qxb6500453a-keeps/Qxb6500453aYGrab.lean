/- The law itself as another holder: Grab, Drop. -/
import Derived.Test.Qxb6500453aYDo
namespace Go.Proofs.Qxb6500453a
open Go Go.RowKit
set_option maxRecDepth 100000
set_option maxHeartbeats 1600000
set_option linter.unusedSimpArgs false
set_option linter.unusedVariables false

/-- What is held behind a Grab. -/
def held1 (l : List Int) (r : Int × Int × L.St) : List Int := if r.2.1 = 0 then l ++ [r.1] else l

theorem OwnI.form2 {w : World} {base : Nat} {v : Value} {l : List Int} (h : OwnI w base v l) : ∃ a cap, v = .slice a l.length cap ∧ ∀ j, j < l.length → ∃ g, a = some ⟨g, 0, none⟩ ∧ v.ownBlock = some g := by
  rcases h.empty with ⟨h1, h2⟩ | ⟨g, cp, h1, _⟩
  · exact ⟨none, 0, by rw [h1, h2]; rfl, fun j hj => by rw [h2] at hj; exact absurd hj (by simp)⟩
  · exact ⟨some ⟨g, 0, none⟩, cp, h1, fun j hj => ⟨g, rfl, by rw [h1]; rfl⟩⟩

theorem drop_rev {l : List Int} {j : Nat} (hj : j < l.length) : l.reverse.drop (l.length - (j + 1)) = l.getD j 0 :: l.reverse.drop (l.length - j) := by
  rw [List.drop_eq_getElem_cons (by simp; omega)]
  congr 1
  · have e : l.getD j 0 = l[j] := by simp [List.getD, hj]
    rw [e, List.getElem_reverse]
    congr 1
    omega
  · congr 1
    omega

/-- The end of Grab: a slice and an answer's box. -/
theorem retG {fn : Func} {R : Ending → World → Prop} {a : Act} {W : World} {pa : Nat} {tv v0 v1 v2 v3 : Value} (hres : fn.results = #[.tmp 6, .cell 7 51]) (h6 : a.tmps.getD 6 undef = tv) (ht : a.tmps.getD 7 undef = .pointer (some ⟨pa, 0, none⟩)) (hd : a.defers = [])
    (h0 : Has W pa 0) (h1 : Has W pa 1) (h2 : Has W pa 2) (h3 : Has W pa 3)
    (hR : R (.returned (.tuple #[tv, .agg #[v0, v1, v2, v3]])) ((((W.setCell ⟨pa, 0, none⟩ v0).setCell ⟨pa, 1, none⟩ v1).setCell ⟨pa, 2, none⟩ v2).setCell ⟨pa, 3, none⟩ v3)) :
    bodyPost Try.prog fn R .ret a ((((W.setCell ⟨pa, 0, none⟩ v0).setCell ⟨pa, 1, none⟩ v1).setCell ⟨pa, 2, none⟩ v2).setCell ⟨pa, 3, none⟩ v3) := by
  obtain ⟨_, a0⟩ := h0
  obtain ⟨_, a1⟩ := h1
  obtain ⟨_, a2⟩ := h2
  obtain ⟨_, a3⟩ := h3
  have z0 := ((((a0.same v0).other (b' := pa) (o' := 1) (by omega) v1).other (b' := pa) (o' := 2) (by omega) v2).other (b' := pa) (o' := 3) (by omega) v3).c
  have z1 := ((((a1.other (b' := pa) (o' := 0) (by omega) v0).same v1).other (b' := pa) (o' := 2) (by omega) v2).other (b' := pa) (o' := 3) (by omega) v3).c
  have z2 := ((((a2.other (b' := pa) (o' := 0) (by omega) v0).other (b' := pa) (o' := 1) (by omega) v1).same v2).other (b' := pa) (o' := 3) (by omega) v3).c
  have z3 := ((((a3.other (b' := pa) (o' := 0) (by omega) v0).other (b' := pa) (o' := 1) (by omega) v1).other (b' := pa) (o' := 2) (by omega) v2).same v3).c
  generalize (((W.setCell ⟨pa, 0, none⟩ v0).setCell ⟨pa, 1, none⟩ v1).setCell ⟨pa, 2, none⟩ v2).setCell ⟨pa, 3, none⟩ v3 = W4 at *
  have ht' : a.tmps[7]?.getD undef = .pointer (some ⟨pa, 0, none⟩) := by simpa using ht
  have h6' : a.tmps[6]?.getD undef = tv := by simpa using h6
  refine ⟨hd, _, ?_, hR⟩
  simp [results, hres, go_sem, ht', h6', z0, z1, z2, z3]

theorem grab_any {w : World} {bT bC bR : Nat} {st : L.St} (h : RT w bT bC bR st) {v : Value} {base : Nat} {l : List Int} (ow : OwnI w base v l) (hs : ∀ k, v.ownBlock = some k → ¬ S3 bT bC bR k) (hb : base ≤ w.heap.size) (hl : l.length ≤ 4398046511104) (k : Int) :
    Calls Try.prog 23 #[.agg #[.pointer (some ⟨bT, 0, none⟩)], v, .int .i64 k] w fun e w' => ∃ v', e = .returned (.tuple #[v', ansV (L.acq st k).2.1 (L.acq st k).1 0 ⟨#[]⟩]) ∧
      RT w' bT bC bR (L.acq st k).2.2 ∧ OwnI w' base v' (held1 l (L.acq st k)) ∧ (∀ q, v'.ownBlock = some q → v.ownBlock = some q ∨ w.heap.size ≤ q) ∧ Fr (fun i => S3 bT bC bR i ∨ v.ownBlock = some i) w w' := by
  have OW := hid ow
  have HS := hid hs
  have H := hid h
  clear h ow hs
  by_cases hE : (L.acq st k).2.1 = 0
  · have HD : Hid (held1 l (L.acq st k) = l ++ [(L.acq st k).1]) := by unfold Hid held1; rw [if_pos hE]
    rw [HD.out, hE]
    have HE := hid hE
    clear hE HD
    go_enter Try.func23, Try.ntmps23
    go_wp2_with fail
    refine (acquire_any (H.out.fr (two_fr w _ _) (fun h => h) (fun h => h) (fun h => h)) k).mono ?_
    rintro e w1 ⟨rfl, r1, f1⟩
    have hlt : ∀ i, S3 bT bC bR i → i < w.heap.size := fun i c => by
      have := H.out.lt
      rcases c with rfl | rfl | rfl
      · exact this.1
      · exact this.2.1
      · exact this.2.2
    have B := hid (do_box hlt f1)
    have HR := hid r1
    have F1 : Hid (Fr (S3 bT bC bR) w w1) := ((two_fr w _ _).mono (fun _ _ h => h.elim)).trans f1
    have O1 := hid (OW.out.fr F1.out HS.out)
    have HPA : Hid (w.heap.size ≤ w.heap.size + 1) := by unfold Hid; omega
    have HLT := hid hlt
    clear r1 f1 hlt
    generalize w.heap.size + 1 = pa at *
    have NV : Hid (¬ v.ownBlock = some pa) := fun e => by have := (OW.out.lt e).2; have := HPA.out; omega
    rw [HE.out]
    have hbz : base ≤ w1.heap.size := Nat.le_trans hb F1.out.size
    go_wp2_with (first
      | (at_builtin; refine wp_appI rfl rfl (v := v) rfl (O1.out.fr ((Fr.refl (fun _ => False) _).alloc _) (fun _ _ h => h)) rfl (y := (L.acq st k).1) (At.new w1 #[.int .i64 (L.acq st k).1] _ rfl).c hl (by simp; omega) ?_; intro g cp w7 ow7 f7 hg7 hl7; have b7 := (B.out.fr ((Fr.refl (fun _ => False) w1).alloc _) (fun h => h)).fr f7 NV.out; have c0 := b7.a0.c; have c1 := b7.a1.c; have c2 := b7.a2.c; have c3 := b7.a3.c; have x0 := b7.a0.f; have x1 := b7.a1.f; have x2 := b7.a2.f; have x3 := b7.a3.f; go_frame)
      | go_in)
    have fa := (Fr.refl (fun _ => False) w1).alloc (.cells #[.int .i64 (L.acq st k).1] 3)
    have hpa := HPA.out
    have ff : Fr (fun i => S3 bT bC bR i ∨ v.ownBlock = some i) w w7 := ((F1.out.mono (fun _ _ h => .inl h)).trans (fa.mono (fun _ _ h => h.elim))).trans (f7.mono (fun _ _ h => .inr h))
    have fb : Fr (fun i => i = pa) w7 ((((w7.setCell ⟨pa, 0, none⟩ (.int .i64 0)).setCell ⟨pa, 1, none⟩ (.int .i64 (L.acq st k).1)).setCell ⟨pa, 2, none⟩ (.int .i64 0)).setCell ⟨pa, 3, none⟩ (.string ⟨#[]⟩)) := in_fr _ _ _ (in_fr _ _ _ (in_fr _ _ _ (in_fr _ _ _ (Fr.refl _ _))))
    have n3 : ∀ i, S3 bT bC bR i → ¬ v.ownBlock = some i := fun i c e => HS.out i e c
    have np : ∀ i, S3 bT bC bR i → ¬ i = pa := fun i c e => by have := HLT.out i c; omega
    refine retG Try.results23 rfl rfl rfl b7.a0.has b7.a1.has b7.a2.has b7.a3.has ⟨_, rfl, ?_, ow7.fr fb (fun q hq e => ?_), fun q hq => ?_, ff.then fb (fun i hi e => by omega)⟩
    · exact (((HR.out.fr fa (fun h => h) (fun h => h) (fun h => h)).fr f7 (n3 _ (.inl rfl)) (n3 _ (.inr (.inl rfl))) (n3 _ (.inr (.inr rfl))))).fr fb (np _ (.inl rfl)) (np _ (.inr (.inl rfl))) (np _ (.inr (.inr rfl)))
    · simp only [Value.ownBlock] at hq
      rcases hg7 with h7 | h7
      · exact NV.out (h7.trans (by rw [← e]; simpa using hq))
      · have := B.out.a0.lt
        simp at hq h7
        omega
    · simp only [Value.ownBlock] at hq
      rcases hg7 with h7 | h7
      · exact .inl (h7.trans (by simpa using hq))
      · have := F1.out.size
        simp at hq h7
        exact .inr (by omega)
  · have HD : Hid (held1 l (L.acq st k) = l) := by unfold Hid held1; rw [if_neg hE]
    rw [HD.out]
    have hEb : ((L.acq st k).2.1 == 0) = false := by simp [hE]
    clear hE HD
    go_enter Try.func23, Try.ntmps23
    go_wp2_with fail
    refine (acquire_any (H.out.fr (two_fr w _ _) (fun h => h) (fun h => h) (fun h => h)) k).mono ?_
    rintro e w1 ⟨rfl, r1, f1⟩
    have hlt : ∀ i, S3 bT bC bR i → i < w.heap.size := fun i c => by
      have := H.out.lt
      rcases c with rfl | rfl | rfl
      · exact this.1
      · exact this.2.1
      · exact this.2.2
    have B := hid (do_box hlt f1)
    have HR := hid r1
    have F1 : Hid (Fr (S3 bT bC bR) w w1) := ((two_fr w _ _).mono (fun _ _ h => h.elim)).trans f1
    have O1 := hid (OW.out.fr F1.out HS.out)
    have HPA : Hid (w.heap.size ≤ w.heap.size + 1) := by unfold Hid; omega
    have HLT := hid hlt
    clear r1 f1 hlt
    generalize w.heap.size + 1 = pa at *
    have NV : Hid (¬ v.ownBlock = some pa) := fun e => by have := (OW.out.lt e).2; have := HPA.out; omega
    have c0 := B.out.a0.c
    have c1 := B.out.a1.c
    have c2 := B.out.a2.c
    have c3 := B.out.a3.c
    have x0 := B.out.a0.f
    have x1 := B.out.a1.f
    have x2 := B.out.a2.f
    have x3 := B.out.a3.f
    go_wp2_with fail
    have hpa := HPA.out
    have fb : Fr (fun i => i = pa) w1 ((((w1.setCell ⟨pa, 0, none⟩ (.int .i64 (L.acq st k).2.1)).setCell ⟨pa, 1, none⟩ (.int .i64 (L.acq st k).1)).setCell ⟨pa, 2, none⟩ (.int .i64 0)).setCell ⟨pa, 3, none⟩ (.string ⟨#[]⟩)) := in_fr _ _ _ (in_fr _ _ _ (in_fr _ _ _ (in_fr _ _ _ (Fr.refl _ _))))
    have np : ∀ i, S3 bT bC bR i → ¬ i = pa := fun i c e => by have := HLT.out i c; omega
    refine retG Try.results23 rfl rfl rfl B.out.a0.has B.out.a1.has B.out.a2.has B.out.a3.has ⟨_, rfl, HR.out.fr fb (np _ (.inl rfl)) (np _ (.inr (.inl rfl))) (np _ (.inr (.inr rfl))), O1.out.fr fb (fun q hq e => NV.out (e ▸ hq)), fun q hq => .inl hq, (F1.out.mono (fun _ _ h => .inl h)).then fb (fun i hi e => by omega)⟩

theorem drop_any {w : World} {bT bC bR : Nat} {st : L.St} (h : RT w bT bC bR st) {v : Value} {base : Nat} {l : List Int} (ow : OwnI w base v l) (hs : ∀ k, v.ownBlock = some k → ¬ S3 bT bC bR k) (hl : l.length ≤ 4398046511104) :
    Calls Try.prog 24 #[.agg #[.pointer (some ⟨bT, 0, none⟩)], v] w fun e w' => e = .returned (.tuple #[]) ∧
      RT w' bT bC bR (relAll l.reverse st) ∧ Fr (S3 bT bC bR) w w' := by
  obtain ⟨a7, cap7, hv, hcl⟩ := ow.form2
  subst hv
  have HCL := hid hcl
  have OW := hid ow
  have HS := hid hs
  have H := hid h
  have hlt : ∀ i, S3 bT bC bR i → i < w.heap.size := fun i c => by
    have := h.lt
    rcases c with rfl | rfl | rfl
    · exact this.1
    · exact this.2.1
    · exact this.2.2
  have HLT := hid hlt
  have hlI : (l.length : Int) ≤ 4398046511104 := by omega
  have hl0 : (0 : Int) ≤ (l.length : Int) := by omega
  clear h ow hs hcl hlt hl
  go_enter Try.func24, Try.ntmps24
  go_upto_region 2 with fail
  have PB : Hid (At (w.alloc (.cells #[.pointer (some ⟨bT, 0, none⟩)] 28)) w.heap.size 0 (.pointer (some ⟨bT, 0, none⟩))) := At.new w _ _ rfl
  have F0 := hid ((Fr.refl (fun _ => False) w).alloc (.cells #[.pointer (some ⟨bT, 0, none⟩)] 28))
  generalize w.alloc (.cells #[.pointer (some ⟨bT, 0, none⟩)] 28) = w0 at *
  obtain ⟨pb, hpb⟩ : ∃ pb, pb = w.heap.size := ⟨_, rfl⟩
  rw [← hpb] at PB ⊢
  have HPB := hid hpb
  clear hpb
  go_loopw [4] (fun jv wi => ∃ (m : Nat) (lk : L.St), jv = .int .i64 ((m : Int) - 1) ∧ m ≤ l.length ∧ relAll (l.reverse.drop (l.length - m)) lk = relAll l.reverse st ∧ RT wi bT bC bR lk ∧ Fr (S3 bT bC bR) w wi ∧ At wi pb 0 (.pointer (some ⟨bT, 0, none⟩))) (fun jv _ => (intOf jv + 1).toNat)
  case atStart => exact ⟨l.length, st, by go_num, Nat.le_refl _, by simp, H.out.fr F0.out (fun h => h) (fun h => h) (fun h => h), F0.out.mono (fun _ _ h => h.elim), PB.out⟩
  case round =>
    clear PB F0
    obtain ⟨m, lk, rfl, hmle, hrl, hr, hf, hp⟩ := hrel
    have HRL := hid hrl
    have HR := hid hr
    have HF := hid hf
    have HP := hid hp
    clear hrl hr hf hp
    rcases m with _ | j
    · have hlk : lk = relAll l.reverse st := by
        have := HRL.out
        rw [Nat.sub_zero, List.drop_of_length_le (by simp)] at this
        exact this
      subst hlk
      go_wp2_with fail
      go_end0
      exact ⟨rfl, HR.out, HF.out⟩
    · have hj1 : ((j + 1 : Nat) : Int) - 1 = (j : Int) := by omega
      rw [hj1]
      have hj0 : (0 : Int) ≤ (j : Int) := by omega
      have hjl : (j : Int) < (l.length : Int) := by omega
      have hjl' : j < l.length := by omega
      obtain ⟨g, rfl, hown⟩ := HCL.out j hjl'
      have ng := HS.out g hown
      have cg := ((OW.out.cell rfl (j := j) hjl').fr HF.out ng).c
      have d0 := HP.out.c
      obtain ⟨hh, hhq⟩ : ∃ hh, hh = l.getD j 0 := ⟨_, rfl⟩
      have HDR := hid (drop_rev hjl')
      rw [← hhq] at cg HDR
      clear hhq hj1
      have np : ¬ S3 bT bC bR pb := fun c => by have := HLT.out _ c; have := HPB.out; omega
      go_upto_region 4 with fail
      go_region_held3 (fun W => W.cell? ⟨pb, 0, none⟩ = some (.pointer (some ⟨bT, 0, none⟩)) ∧ W.cell? ⟨g, j, none⟩ = some (.int .i64 hh)) (go_keep) (first | (go_at_call 41; refine (release_any HR.out.drew hh).mono ?_; rintro e z ⟨rfl, rz, gz⟩; have z0 : z.cell? ⟨pb, 0, none⟩ = some (.pointer (some ⟨bT, 0, none⟩)) := cellFr gz np (by simp [*]); have z1 : z.cell? ⟨g, j, none⟩ = some (.int .i64 hh) := cellFr gz ng (by simp [*])))
      go_wp2_with fail
      refine ⟨⟨j, (L.rel lk hh).2, rfl, by omega, ?_, rz, HF.out.drew.trans gz, HP.out.drew.fr gz np⟩, by simp [intOf] <;> omega⟩
      have := HRL.out
      rw [HDR.out] at this
      exact this

end Go.Proofs.Qxb6500453a
