/- The model gate's scanner: isDigit, digit, must, num. -/
import Derived.Test.Qxb6500452aGCmd
namespace Go.Proofs.Qxb6500452a
open Go Go.RowKit
set_option maxRecDepth 100000
set_option maxHeartbeats 1600000
set_option linter.unusedSimpArgs false
set_option linter.unusedVariables false

/-- The scanner: the request, the place, and -1 or the place of the first fault. -/
structure SN (w : World) (C : Nat) (s : ByteArray) (p : Nat) (at' : Int) : Prop where
  dc : DC w C s p
  c2 : At w C 2 (.int .i64 at')
theorem SN.fr {w w' : World} {C : Nat} {s : ByteArray} {p : Nat} {a : Int} (h : SN w C s p a) {S : Nat → Prop} (hf : Fr S w w') (hn : ¬ S C) : SN w' C s p a := ⟨h.dc.fr hf hn, h.c2.fr hf hn⟩
theorem SN.drew {w : World} {C : Nat} {s : ByteArray} {p : Nat} {a : Int} (h : SN w C s p a) : SN w.drew C s p a := ⟨h.dc.drew, h.c2.drew⟩
theorem SN.step {w : World} {C : Nat} {s : ByteArray} {p : Nat} {a : Int} (h : SN w C s p a) (hlt : p < s.size) : SN (w.setCell ⟨C, 1, none⟩ (.int .i64 ((p : Int) + 1))) C s (p + 1) a := ⟨h.dc.step hlt, h.c2.other (by omega) _⟩
theorem SN.fault {w : World} {C : Nat} {s : ByteArray} {p : Nat} {a : Int} (h : SN w C s p a) : SN (w.setCell ⟨C, 2, none⟩ (.int .i64 (p : Int))) C s p (p : Int) := ⟨⟨h.dc.c0.other (by omega) _, h.dc.c1.other (by omega) _, h.dc.sz, h.dc.le⟩, h.c2.same _⟩

/-- What a reader of the scanner leaves: a value and the new place, or a fault that is remembered. -/
def PostM {α : Type} (r : PR α) (enc : α → Value) (C : Nat) (s : ByteArray) (e : Ending) (w' : World) : Prop :=
  match r with
  | .ok x => e = .returned (enc x.1) ∧ SN w' C s x.2 (-1)
  | .error q => (∃ v : Int, 0 ≤ v ∧ v ≤ 99999 ∧ e = .returned (.int .i64 v)) ∧ ∃ p', SN w' C s p' (q : Int)

theorem isd_any {w : World} {C : Nat} {s : ByteArray} {p : Nat} (h : DC w C s p) : Calls Try.prog 105 #[.pointer (some ⟨C, 0, none⟩)] w fun e w' => e = .returned (.bool (dgB s p)) ∧ Fr (fun _ => False) w w' := by
  have c0 := h.c0.c
  have c1 := h.c1.c
  have hsz := h.sz
  have hszI : (s.size : Int) ≤ 20 := by omega
  have hp0 : (0 : Int) ≤ (p : Int) := by omega
  clear h
  by_cases hlt : p < s.size
  · have hltI : (p : Int) < (s.size : Int) := by omega
    have hb := byU_get hlt
    by_cases h48 : (48 : Int) ≤ ((byU s p).toNat : Int)
    · by_cases h57 : ((byU s p).toNat : Int) ≤ 57
      · have HE : Hid (dgB s p = true) := by unfold Hid dgB; simp; omega
        go_enter Try.func105, Try.ntmps105
        go_upto_region 1 with fail
        go_region
        go_wp2_with fail
        go_ret
        rw [HE.out]
        exact ⟨rfl, (Fr.refl _ _).drew⟩
      · have HE : Hid (dgB s p = false) := by unfold Hid dgB; simp; omega
        go_enter Try.func105, Try.ntmps105
        go_upto_region 1 with fail
        go_region
        go_wp2_with fail
        go_ret
        rw [HE.out]
        exact ⟨rfl, (Fr.refl _ _).drew⟩
    · have HE : Hid (dgB s p = false) := by unfold Hid dgB; simp; omega
      go_enter Try.func105, Try.ntmps105
      go_upto_region 1 with fail
      go_region
      go_wp2_with fail
      go_ret
      rw [HE.out]
      exact ⟨rfl, (Fr.refl _ _).drew⟩
  · have hltI : ¬ (p : Int) < (s.size : Int) := by omega
    have HE : Hid (dgB s p = false) := by unfold Hid dgB; simp; omega
    clear hlt
    go_enter Try.func105, Try.ntmps105
    go_upto_region 1 with fail
    go_region
    go_wp2_with fail
    go_ret
    rw [HE.out]
    exact ⟨rfl, (Fr.refl _ _).drew⟩

theorem sdig_fault {w : World} {C : Nat} {s : ByteArray} {p : Nat} {a : Int} (h : SN w C s p a) (ha : 0 ≤ a) : Calls Try.prog 97 #[.pointer (some ⟨C, 0, none⟩)] w fun e w' => e = .returned (.int .i64 0) ∧ w' = w := by
  have c2 := h.c2.c
  clear h
  go_enter Try.func97, Try.ntmps97
  go_wp2_with fail
  go_ret
  exact ⟨rfl, rfl⟩

theorem C2_fr {w : World} (C o : Nat) (v : Value) : Fr (fun i => i = C) w (w.setCell ⟨C, o, none⟩ v) := (Fr.refl (fun i => i = C) w).setCell (p := ⟨C, o, none⟩) (fun _ => rfl) v

theorem sdig_any {w : World} {C : Nat} {s : ByteArray} {p : Nat} (h : SN w C s p (-1)) : Calls Try.prog 97 #[.pointer (some ⟨C, 0, none⟩)] w fun e w' =>
    PostM (digP s p) iV C s e w' ∧ Fr (fun i => i = C) w w' := by
  have H := hid h
  have c2 := h.c2.c
  clear h
  rcases hd : dgB s p with _ | _
  · have hP : digP s p = .error p := by unfold digP; rw [hd]; rfl
    rw [hP]
    clear hP
    go_enter Try.func97, Try.ntmps97
    go_wp2_with fail
    refine (isd_any H.out.dc).mono ?_
    rintro e w1 ⟨rfl, f1⟩
    rw [hd]
    have H1 := hid (H.out.fr f1 (fun h => h))
    have F1 := hid f1
    clear f1 c2
    have c1 := H1.out.dc.c1.c
    have c2 := H1.out.c2.c
    have x2 := H1.out.c2.f
    go_wp2_with fail
    go_ret
    exact ⟨⟨⟨0, by omega, by omega, rfl⟩, p, H1.out.fault⟩, (F1.out.mono (fun _ _ h => h.elim)).trans (C2_fr C 2 _)⟩
  · obtain ⟨hlt, h48, h57⟩ := dg_lt hd
    have hP : digP s p = .ok (dgV s p, p + 1) := by unfold digP; rw [hd]; rfl
    rw [hP]
    clear hP
    have hltI : (p : Int) < (s.size : Int) := by omega
    have hb := byU_get hlt
    have hsz := H.out.dc.sz
    have hszI : (s.size : Int) ≤ 20 := by omega
    have hp0 : (0 : Int) ≤ (p : Int) := by omega
    have h48I : (48 : Int) ≤ ((byU s p).toNat : Int) := by omega
    have h57I : ((byU s p).toNat : Int) ≤ 57 := by omega
    go_enter Try.func97, Try.ntmps97
    go_wp2_with fail
    refine (isd_any H.out.dc).mono ?_
    rintro e w1 ⟨rfl, f1⟩
    rw [hd]
    have H1 := hid (H.out.fr f1 (fun h => h))
    have F1 := hid f1
    have c0 := H1.out.dc.c0.c
    have c1 := H1.out.dc.c1.c
    have x1 := H1.out.dc.c1.f
    clear f1 c2
    go_upto_region 7 with fail
    go_region
    go_wp2_with fail
    go_ret
    exact ⟨⟨rfl, (H1.out.step hlt).drew⟩, ((F1.out.mono (fun _ _ h => h.elim)).trans (C_fr C _)).drew⟩

def PostU (r : PR Unit) (C : Nat) (s : ByteArray) (e : Ending) (w' : World) : Prop :=
  e = .returned (.tuple #[]) ∧ (match r with | .ok x => SN w' C s x.2 (-1) | .error q => ∃ p', SN w' C s p' (q : Int))
theorem smust_any {w : World} {C : Nat} {s : ByteArray} {p : Nat} (h : SN w C s p (-1)) (b : UInt8) : Calls Try.prog 99 #[.pointer (some ⟨C, 0, none⟩), .int .u8 (b.toNat : Int)] w fun e w' =>
    PostU (mustP s p b) C s e w' ∧ Fr (fun i => i = C) w w' := by
  have H := hid h
  have c0 := h.dc.c0.c
  have c1 := h.dc.c1.c
  have x1 := h.dc.c1.f
  have c2 := h.c2.c
  have x2 := h.c2.f
  have hszI : (s.size : Int) ≤ 20 := by have := h.dc.sz; omega
  have hp0 : (0 : Int) ≤ (p : Int) := by omega
  clear h
  by_cases hlt : p < s.size
  · have hltI : ¬ (s.size : Int) ≤ (p : Int) := by omega
    have hltJ : (p : Int) < (s.size : Int) := by omega
    have hb := byU_get hlt
    by_cases he : byU s p = b
    · have hP : mustP s p b = .ok ((), p + 1) := by unfold mustP; rw [if_pos ⟨hlt, he⟩]
      rw [hP]
      rw [he] at hb
      clear hP he
      go_enter Try.func99, Try.ntmps99
      go_upto_region 1 with fail
      go_region
      go_wp2_with fail
      go_end0
      exact ⟨⟨rfl, (by have := (H.out.drew).step hlt; exact this)⟩, (Fr.refl (fun i => i = C) w).drew.trans (C_fr C _)⟩
    · have hP : mustP s p b = .error p := by unfold mustP; rw [if_neg (fun h => he h.2)]
      have heb : (((byU s p).toNat : Int) != (b.toNat : Int)) = true := by
        simp only [bne_iff_ne]
        intro c
        exact he (UInt8.toNat_inj.1 (by omega))
      rw [hP]
      clear hP he
      go_enter Try.func99, Try.ntmps99
      go_upto_region 1 with fail
      go_region
      go_wp2_with fail
      exact bodyPost_ret (v := .tuple #[]) (by simp [results, Try.results99, go_sem]) rfl ⟨⟨rfl, p, H.out.drew.fault⟩, (Fr.refl (fun i => i = C) w).drew.trans (C2_fr C 2 _)⟩
  · have hltI : (s.size : Int) ≤ (p : Int) := by omega
    have hP : mustP s p b = .error p := by unfold mustP; rw [if_neg (fun h => hlt h.1)]
    rw [hP]
    clear hP hlt
    go_enter Try.func99, Try.ntmps99
    go_upto_region 1 with fail
    go_region
    go_wp2_with fail
    exact bodyPost_ret (v := .tuple #[]) (by simp [results, Try.results99, go_sem]) rfl ⟨⟨rfl, p, H.out.drew.fault⟩, (Fr.refl (fun i => i = C) w).drew.trans (C2_fr C 2 _)⟩

theorem snum_any {w : World} {C : Nat} {s : ByteArray} {p : Nat} (h : SN w C s p (-1)) : Calls Try.prog 106 #[.pointer (some ⟨C, 0, none⟩)] w fun e w' =>
    PostM (numP s p) iV C s e w' ∧ Fr (fun i => i = C) w w' := by
  have H := hid h
  clear h
  rcases hd : dgB s p with _ | _
  · have hP : numP s p = .error p := by unfold numP; rw [hd]; rfl
    have hQ : digP s p = .error p := by unfold digP; rw [hd]; rfl
    rw [hP]
    clear hP
    go_enter Try.func106, Try.ntmps106
    go_wp2_with fail
    refine (sdig_any H.out).mono ?_
    rintro e w1 ⟨hpost, f1⟩
    rw [hQ] at hpost
    obtain ⟨⟨v, hv0, hv1, rfl⟩, p', sn⟩ := hpost
    have SN1 := hid sn
    have F1 := hid f1
    have c2 := sn.c2.c
    have hp0 : ¬ (p : Int) < 0 := by omega
    clear sn f1
    go_wp2_with fail
    refine wp_loop_rounds 1 ?_
    rw [rounds_succ]
    go_wp2_with fail
    go_ret
    exact ⟨⟨⟨v, hv0, hv1, rfl⟩, p', SN1.out⟩, F1.out⟩
  · have hP : numP s p = .ok (numL s 2 (dgV s p) (p + 1)) := by unfold numP; rw [hd]; rfl
    have hQ : digP s p = .ok (dgV s p, p + 1) := by unfold digP; rw [hd]; rfl
    have hv := dgV_le hd
    rw [hP]
    clear hP
    go_enter Try.func106, Try.ntmps106
    go_wp2_with fail
    refine (sdig_any H.out).mono ?_
    rintro e w1 ⟨hpost, f1⟩
    rw [hQ] at hpost
    obtain ⟨rfl, sn⟩ := hpost
    have SN1 := hid sn
    have F1 := hid f1
    clear sn f1 hQ
    unfold iV
    go_wp2_with fail
    go_loopw [3, 4] (fun a b wr => ∃ (v : Int) (n q : Nat), a = .int .i64 v ∧ b = .int .i64 (n : Int) ∧ SN wr C s q (-1) ∧ Fr (fun i => i = C) w wr ∧ numL s (2 - n) v q = numL s 2 (dgV s p) (p + 1) ∧ 0 ≤ v ∧ ((n = 0 ∧ v ≤ 9) ∨ (n = 1 ∧ v ≤ 99) ∨ (n = 2 ∧ v ≤ 999))) (fun _ b _ => 3 - (intOf b).toNat)
    case atStart => exact ⟨_, 0, p + 1, rfl, rfl, SN1.out, F1.out, rfl, hv.1, .inl ⟨rfl, hv.2⟩⟩
    case round =>
      clear SN1 F1 hv
      obtain ⟨v, n, q, rfl, rfl, sn, fr, hnl, hv0, hcs⟩ := hrel
      have SNq := hid sn
      have FR := hid fr
      have HNL := hid hnl
      have c2 := sn.c2.c
      clear sn fr hnl
      by_cases h2 : n = 2
      · subst h2
        clear hcs
        go_wp2_with fail
        go_ret
        refine ⟨?_, FR.out⟩
        have := HNL.out
        rw [show 2 - 2 = 0 from rfl] at this
        rw [← this]
        exact ⟨rfl, SNq.out⟩
      · have hnI : (n : Int) < 2 := by omega
        have hvI : v ≤ 99 := by omega
        have hn0 : (0 : Int) ≤ (n : Int) := by omega
        have HCS := hid hcs
        have HN2 : Hid (n ≤ 1) := by unfold Hid; omega
        clear hcs h2
        rcases hq : dgB s q with _ | _
        · have HE : Hid (numL s 2 (dgV s p) (p + 1) = (v, q)) := by
            have := HNL.out
            rw [show 2 - n = (1 - n) + 1 by have := HN2.out; omega] at this
            rw [← this]
            show (if dgB s q = true then numL s (1 - n) (v * 10 + dgV s q) (q + 1) else (v, q)) = _
            rw [hq]; rfl
          go_wp2_with (first | (go_at_call 105; refine (isd_any SNq.out.dc).mono ?_; rintro e w2 ⟨rfl, f2⟩; rw [hq]) | fail)
          go_ret
          rw [HE.out]
          exact ⟨⟨rfl, SNq.out.fr f2 (fun h => h)⟩, FR.out.trans (f2.mono (fun _ _ h => h.elim))⟩
        · have hd9 := dgV_le hq
          have hQ2 : digP s q = .ok (dgV s q, q + 1) := by unfold digP; rw [hq]; rfl
          have HE : Hid (numL s (2 - (n + 1)) (v * 10 + dgV s q) (q + 1) = numL s 2 (dgV s p) (p + 1)) := by
            have := HNL.out
            rw [show 2 - n = (1 - n) + 1 by have := HN2.out; omega] at this
            rw [← this]
            show _ = (if dgB s q = true then numL s (1 - n) (v * 10 + dgV s q) (q + 1) else (v, q))
            rw [hq, if_pos rfl]
            rw [show 2 - (n + 1) = 1 - n by omega]
          go_upto_region 7 with (first | (go_at_call 105; refine (isd_any SNq.out.dc).mono ?_; rintro e w2 ⟨rfl, f2⟩; rw [hq]) | fail)
          have SN2 := hid (SNq.out.fr f2 (fun h => h))
          have F2 := hid (FR.out.trans (f2.mono (fun _ _ h => h.elim)))
          clear f2 c2
          go_wp2_with fail
          refine (sdig_any SN2.out).mono ?_
          rintro e w3 ⟨hpost, f3⟩
          rw [hQ2] at hpost
          obtain ⟨rfl, sn3⟩ := hpost
          have SN3 := hid sn3
          have F3 := hid (F2.out.trans f3)
          clear sn3 f3 hQ2
          unfold iV
          obtain ⟨d0, d9⟩ := hd9
          go_wp2_with fail
          exact ⟨⟨v * 10 + dgV s q, n + 1, q + 1, by go_num, by go_num, SN3.out, F3.out, HE.out, by omega, by have := HN2.out; have := HCS.out; omega⟩, by simp [intOf]; omega⟩

end Go.Proofs.Qxb6500452a
