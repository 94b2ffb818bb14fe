/- The gate's decoder: more, verb, digit, must, end. -/
import Derived.Test.Qxb6500452aVPay
namespace Go.Proofs.Qxb6500452a
open Go Go.RowKit
set_option maxRecDepth 100000
set_option maxHeartbeats 1600000
set_option linter.unusedSimpArgs false
set_option linter.unusedVariables false

def synV (p : Nat) : Value := .iface 53 (.agg #[.int .i64 (p : Int)])
def pan (p : Nat) : Ending := .panicked [{ v := synV p, recovered := false }]

structure DC (w : World) (C : Nat) (s : ByteArray) (p : Nat) : Prop where
  c0 : At w C 0 (.string s)
  c1 : At w C 1 (.int .i64 (p : Int))
  sz : s.size ≤ 20
  le : p ≤ s.size
theorem DC.fr {w w' : World} {C : Nat} {s : ByteArray} {p : Nat} (h : DC w C s p) {S : Nat → Prop} (hf : Fr S w w') (hn : ¬ S C) : DC w' C s p := ⟨h.c0.fr hf hn, h.c1.fr hf hn, h.sz, h.le⟩

def byU (s : ByteArray) (p : Nat) : UInt8 := s[p]?.getD 0
theorem byU_get {s : ByteArray} {p : Nat} (h : p < s.size) : s[p] = byU s p := by simp [byU, h]
def dgB (s : ByteArray) (p : Nat) : Bool := decide (p < s.size ∧ 48 ≤ (byU s p).toNat ∧ (byU s p).toNat ≤ 57)

theorem more_any {w : World} {C : Nat} {s : ByteArray} {p : Nat} (h : DC w C s p) : Calls Try.prog 75 #[.pointer (some ⟨C, 0, none⟩)] w fun e w' => e = .returned (.bool (dgB s p)) ∧ Fr (fun _ => False) w w' := by
  have c0 := h.c0.c
  have c1 := h.c1.c
  have hsz := h.sz
  have hszI : (s.size : Int) ≤ 20 := by omega
  have hp0 : (0 : Int) ≤ (p : Int) := by omega
  clear h
  by_cases hlt : p < s.size
  · have hltI : (p : Int) < (s.size : Int) := by omega
    have hb := byU_get hlt
    by_cases h48 : (48 : Int) ≤ ((byU s p).toNat : Int)
    · by_cases h57 : ((byU s p).toNat : Int) ≤ 57
      · have HE : Hid (dgB s p = true) := by unfold Hid dgB; simp; omega
        go_enter Try.func75, Try.ntmps75
        go_upto_region 1 with fail
        go_region
        go_wp2_with fail
        go_ret
        rw [HE.out]
        exact ⟨rfl, (Fr.refl _ _).drew⟩
      · have HE : Hid (dgB s p = false) := by unfold Hid dgB; simp; omega
        go_enter Try.func75, Try.ntmps75
        go_upto_region 1 with fail
        go_region
        go_wp2_with fail
        go_ret
        rw [HE.out]
        exact ⟨rfl, (Fr.refl _ _).drew⟩
    · have HE : Hid (dgB s p = false) := by unfold Hid dgB; simp; omega
      go_enter Try.func75, Try.ntmps75
      go_upto_region 1 with fail
      go_region
      go_wp2_with fail
      go_ret
      rw [HE.out]
      exact ⟨rfl, (Fr.refl _ _).drew⟩
  · have hltI : ¬ (p : Int) < (s.size : Int) := by omega
    have HE : Hid (dgB s p = false) := by unfold Hid dgB; simp; omega
    clear hlt
    go_enter Try.func75, Try.ntmps75
    go_upto_region 1 with fail
    go_region
    go_wp2_with fail
    go_ret
    rw [HE.out]
    exact ⟨rfl, (Fr.refl _ _).drew⟩

theorem dg_lt {s : ByteArray} {p : Nat} (h : dgB s p = true) : p < s.size ∧ 48 ≤ (byU s p).toNat ∧ (byU s p).toNat ≤ 57 := of_decide_eq_true h

/-- What a reader answers: a value and the new place, or the place of the fault. -/
abbrev PR (α : Type) := Except Nat (α × Nat)
def PostR {α : Type} (r : PR α) (enc : α → Value) (C : Nat) (s : ByteArray) (e : Ending) (w' : World) : Prop :=
  match r with
  | .ok x => e = .returned (enc x.1) ∧ DC w' C s x.2
  | .error q => e = pan q
def iV (n : Int) : Value := .int .i64 n
def dgV (s : ByteArray) (p : Nat) : Int := ((byU s p).toNat : Int) - 48
def digP (s : ByteArray) (p : Nat) : PR Int := if dgB s p = true then .ok (dgV s p, p + 1) else .error p
theorem dgV_le {s : ByteArray} {p : Nat} (h : dgB s p = true) : 0 ≤ dgV s p ∧ dgV s p ≤ 9 := by
  obtain ⟨_, h1, h2⟩ := dg_lt h
  unfold dgV; omega

theorem DC.step {w : World} {C : Nat} {s : ByteArray} {p : Nat} (h : DC w C s p) (hlt : p < s.size) : DC (w.setCell ⟨C, 1, none⟩ (.int .i64 ((p : Int) + 1))) C s (p + 1) :=
  ⟨h.c0.other (by omega) _, (h.c1.same _).val (by simp), h.sz, hlt⟩
theorem DC.drew {w : World} {C : Nat} {s : ByteArray} {p : Nat} (h : DC w C s p) : DC w.drew C s p := ⟨h.c0.drew, h.c1.drew, h.sz, h.le⟩
theorem C_fr {w : World} (C : Nat) (v : Value) : Fr (fun i => i = C) w (w.setCell ⟨C, 1, none⟩ v) := (Fr.refl (fun i => i = C) w).setCell (p := ⟨C, 1, none⟩) (fun _ => rfl) v

theorem digit_any {w : World} {C : Nat} {s : ByteArray} {p : Nat} (h : DC w C s p) : Calls Try.prog 53 #[.pointer (some ⟨C, 0, none⟩)] w fun e w' =>
    PostR (digP s p) iV C s e w' ∧ Fr (fun i => i = C) w w' := by
  have H := hid h
  clear h
  rcases hd : dgB s p with _ | _
  · have hP : digP s p = .error p := by unfold digP; rw [hd]; rfl
    rw [hP]
    clear hP
    go_enter Try.func53, Try.ntmps53
    go_wp2_with fail
    refine (more_any H.out).mono ?_
    rintro e w1 ⟨rfl, f1⟩
    rw [hd]
    have H1 := hid (H.out.fr f1 (fun h => h))
    have F1 := hid f1
    have c1 := H1.out.c1.c
    clear f1
    go_wp2_with fail
    exact ⟨rfl, rfl, F1.out.mono (fun _ _ h => h.elim)⟩
  · obtain ⟨hlt, h48, h57⟩ := dg_lt hd
    have hP : digP s p = .ok (dgV s p, p + 1) := by unfold digP; rw [hd]; rfl
    rw [hP]
    clear hP
    have hltI : (p : Int) < (s.size : Int) := by omega
    have hb := byU_get hlt
    have hsz := H.out.sz
    have hszI : (s.size : Int) ≤ 20 := by omega
    have hp0 : (0 : Int) ≤ (p : Int) := by omega
    have h48I : (48 : Int) ≤ ((byU s p).toNat : Int) := by omega
    have h57I : ((byU s p).toNat : Int) ≤ 57 := by omega
    go_enter Try.func53, Try.ntmps53
    go_wp2_with fail
    refine (more_any H.out).mono ?_
    rintro e w1 ⟨rfl, f1⟩
    rw [hd]
    have H1 := hid (H.out.fr f1 (fun h => h))
    have F1 := hid f1
    have c0 := H1.out.c0.c
    have c1 := H1.out.c1.c
    have x1 := H1.out.c1.f
    clear f1
    go_upto_region 4 with fail
    go_region
    go_wp2_with fail
    go_ret
    exact ⟨⟨rfl, (H1.out.step hlt).drew⟩, ((F1.out.mono (fun _ _ h => h.elim)).trans (C_fr C _)).drew⟩

def vbP (s : ByteArray) (p : Nat) : PR UInt8 := if p < s.size then .ok (byU s p, p + 1) else .error p
def bV (b : UInt8) : Value := .int .u8 (b.toNat : Int)
theorem verb_any {w : World} {C : Nat} {s : ByteArray} {p : Nat} (h : DC w C s p) : Calls Try.prog 52 #[.pointer (some ⟨C, 0, none⟩)] w fun e w' =>
    PostR (vbP s p) bV C s e w' ∧ Fr (fun i => i = C) w w' := by
  have H := hid h
  have c0 := h.c0.c
  have c1 := h.c1.c
  have x1 := h.c1.f
  have hszI : (s.size : Int) ≤ 20 := by have := h.sz; omega
  have hp0 : (0 : Int) ≤ (p : Int) := by omega
  clear h
  by_cases hlt : p < s.size
  · have hltI : ¬ (s.size : Int) ≤ (p : Int) := by omega
    have hltJ : (p : Int) < (s.size : Int) := by omega
    have hP : vbP s p = .ok (byU s p, p + 1) := by unfold vbP; rw [if_pos hlt]
    have hb := byU_get hlt
    rw [hP]
    clear hP
    go_enter Try.func52, Try.ntmps52
    go_upto_region 1 with fail
    go_region
    go_upto_region 4 with fail
    go_region
    go_wp2_with fail
    go_ret
    exact ⟨⟨rfl, (H.out.step hlt).drew.drew⟩, (C_fr C _).drew.drew⟩
  · have hltI : (s.size : Int) ≤ (p : Int) := by omega
    have hP : vbP s p = .error p := by unfold vbP; rw [if_neg hlt]
    rw [hP]
    clear hP hlt
    go_enter Try.func52, Try.ntmps52
    go_upto_region 1 with fail
    go_region
    go_wp2_with fail
    exact ⟨rfl, rfl, (Fr.refl _ _).drew⟩

def uV (_ : Unit) : Value := .tuple #[]
def mustP (s : ByteArray) (p : Nat) (b : UInt8) : PR Unit := if p < s.size ∧ byU s p = b then .ok ((), p + 1) else .error p
theorem must_any {w : World} {C : Nat} {s : ByteArray} {p : Nat} (h : DC w C s p) (b : UInt8) : Calls Try.prog 77 #[.pointer (some ⟨C, 0, none⟩), .int .u8 (b.toNat : Int)] w fun e w' =>
    PostR (mustP s p b) uV C s e w' ∧ Fr (fun i => i = C) w w' := by
  have H := hid h
  have c0 := h.c0.c
  have c1 := h.c1.c
  have x1 := h.c1.f
  have hszI : (s.size : Int) ≤ 20 := by have := h.sz; omega
  have hp0 : (0 : Int) ≤ (p : Int) := by omega
  clear h
  by_cases hlt : p < s.size
  · have hltI : ¬ (s.size : Int) ≤ (p : Int) := by omega
    have hltJ : (p : Int) < (s.size : Int) := by omega
    have hb := byU_get hlt
    by_cases he : byU s p = b
    · have hP : mustP s p b = .ok ((), p + 1) := by unfold mustP; rw [if_pos ⟨hlt, he⟩]
      rw [hP]
      rw [he] at hb
      clear hP he
      go_enter Try.func77, Try.ntmps77
      go_upto_region 0 with fail
      go_region
      go_wp2_with fail
      go_end0
      exact ⟨⟨rfl, (by have := (H.out.drew).step hlt; exact this)⟩, (Fr.refl (fun i => i = C) w).drew.trans (C_fr C _)⟩
    · have hP : mustP s p b = .error p := by unfold mustP; rw [if_neg (fun h => he h.2)]
      have heb : (((byU s p).toNat : Int) != (b.toNat : Int)) = true := by
        simp only [bne_iff_ne]
        intro c
        exact he (UInt8.toNat_inj.1 (by omega))
      rw [hP]
      clear hP he
      go_enter Try.func77, Try.ntmps77
      go_upto_region 0 with fail
      go_region
      go_wp2_with fail
      exact ⟨rfl, rfl, (Fr.refl _ _).drew⟩
  · have hltI : (s.size : Int) ≤ (p : Int) := by omega
    have hP : mustP s p b = .error p := by unfold mustP; rw [if_neg (fun h => hlt h.1)]
    rw [hP]
    clear hP hlt
    go_enter Try.func77, Try.ntmps77
    go_upto_region 0 with fail
    go_region
    go_wp2_with fail
    exact ⟨rfl, rfl, (Fr.refl _ _).drew⟩

def endP (s : ByteArray) (p : Nat) : PR Unit := if p < s.size then .error p else .ok ((), p)
theorem end_any {w : World} {C : Nat} {s : ByteArray} {p : Nat} (h : DC w C s p) : Calls Try.prog 56 #[.pointer (some ⟨C, 0, none⟩)] w fun e w' =>
    PostR (endP s p) uV C s e w' ∧ Fr (fun i => i = C) w w' := by
  have H := hid h
  have c0 := h.c0.c
  have c1 := h.c1.c
  have hszI : (s.size : Int) ≤ 20 := by have := h.sz; omega
  have hp0 : (0 : Int) ≤ (p : Int) := by omega
  clear h
  by_cases hlt : p < s.size
  · have hltJ : (p : Int) < (s.size : Int) := by omega
    have hP : endP s p = .error p := by unfold endP; rw [if_pos hlt]
    rw [hP]
    clear hP
    go_enter Try.func56, Try.ntmps56
    go_upto_region 0 with fail
    go_region
    go_wp2_with fail
    exact ⟨rfl, rfl, (Fr.refl _ _).drew⟩
  · have hltI : ¬ (p : Int) < (s.size : Int) := by omega
    have hP : endP s p = .ok ((), p) := by unfold endP; rw [if_neg hlt]
    rw [hP]
    clear hP hlt
    go_enter Try.func56, Try.ntmps56
    go_upto_region 0 with fail
    go_region
    go_wp2_with fail
    go_end0
    exact ⟨⟨rfl, H.out.drew⟩, (Fr.refl _ _).drew⟩

def numL (s : ByteArray) : Nat → Int → Nat → Int × Nat
  | 0, v, p => (v, p)
  | k + 1, v, p => if dgB s p = true then numL s k (v * 10 + dgV s p) (p + 1) else (v, p)
def numP (s : ByteArray) (p : Nat) : PR Int := if dgB s p = true then .ok (numL s 2 (dgV s p) (p + 1)) else .error p
theorem num_any {w : World} {C : Nat} {s : ByteArray} {p : Nat} (h : DC w C s p) : Calls Try.prog 76 #[.pointer (some ⟨C, 0, none⟩)] w fun e w' =>
    PostR (numP s p) iV C s e w' ∧ Fr (fun i => i = C) w w' := by
  have H := hid h
  clear h
  rcases hd : dgB s p with _ | _
  · have hP : numP s p = .error p := by unfold numP; rw [hd]; rfl
    have hQ : digP s p = .error p := by unfold digP; rw [hd]; rfl
    rw [hP]
    clear hP
    go_enter Try.func76, Try.ntmps76
    go_wp2_with fail
    refine (digit_any H.out).mono ?_
    rintro e w1 ⟨hpost, f1⟩
    rw [hQ] at hpost
    obtain rfl : e = pan p := hpost
    unfold pan
    go_wp2_with fail
    exact ⟨rfl, rfl, f1⟩
  · have hP : numP s p = .ok (numL s 2 (dgV s p) (p + 1)) := by unfold numP; rw [hd]; rfl
    have hQ : digP s p = .ok (dgV s p, p + 1) := by unfold digP; rw [hd]; rfl
    have hv := dgV_le hd
    rw [hP]
    clear hP
    go_enter Try.func76, Try.ntmps76
    go_wp2_with fail
    refine (digit_any H.out).mono ?_
    rintro e w1 ⟨hpost, f1⟩
    rw [hQ] at hpost
    obtain ⟨rfl, dc⟩ := hpost
    have DC1 := hid dc
    have F1 := hid f1
    clear dc f1 hQ
    unfold iV
    go_wp2_with fail
    go_loopw [3, 4] (fun a b wr => ∃ (v : Int) (n q : Nat), a = .int .i64 v ∧ b = .int .i64 (n : Int) ∧ DC wr C s q ∧ Fr (fun i => i = C) w wr ∧ numL s (3 - n) v q = numL s 2 (dgV s p) (p + 1) ∧ 0 ≤ v ∧ ((n = 1 ∧ v ≤ 9) ∨ (n = 2 ∧ v ≤ 99) ∨ (n = 3 ∧ v ≤ 999))) (fun _ b _ => 4 - (intOf b).toNat)
    case atStart => exact ⟨_, 1, p + 1, rfl, rfl, DC1.out, F1.out, rfl, hv.1, .inl ⟨rfl, hv.2⟩⟩
    case round =>
      clear DC1 F1 hv
      obtain ⟨v, n, q, rfl, rfl, dc, fr, hnl, hv0, hcs⟩ := hrel
      have DCq := hid dc
      have FR := hid fr
      have HNL := hid hnl
      clear dc fr hnl
      by_cases h3 : n = 3
      · subst h3
        clear hcs
        go_wp2_with fail
        go_ret
        refine ⟨?_, FR.out⟩
        have := HNL.out
        rw [show 3 - 3 = 0 from rfl] at this
        rw [← this]
        exact ⟨rfl, DCq.out⟩
      · have hnb : ((n : Int) == 3) = false := by simp; omega
        have hn2 : n ≤ 2 ∧ v ≤ 99 := by omega
        have hn1 : 1 ≤ n := by omega
        have HNN : Hid (1 ≤ n ∧ n ≤ 2) := ⟨hn1, hn2.1⟩
        have hvI : v ≤ 99 := hn2.2
        have hnI : (n : Int) ≤ 2 := by omega
        have hn0 : (0 : Int) ≤ (n : Int) := by omega
        have HCS := hid hcs
        clear hcs h3 hn2 hn1
        rcases hq : dgB s q with _ | _
        · have HE : Hid (numL s 2 (dgV s p) (p + 1) = (v, q)) := by
            have := HNL.out
            rw [show 3 - n = (2 - n) + 1 by have := HNN.out; omega] at this
            rw [← this]
            show (if dgB s q = true then numL s (2 - n) (v * 10 + dgV s q) (q + 1) else (v, q)) = _
            rw [hq]; rfl
          go_wp2_with (first | (go_at_call 75; refine (more_any DCq.out).mono ?_; rintro e w2 ⟨rfl, f2⟩; rw [hq]) | fail)
          go_ret
          rw [HE.out]
          exact ⟨⟨rfl, DCq.out.fr f2 (fun h => h)⟩, FR.out.trans (f2.mono (fun _ _ h => h.elim))⟩
        · have hd9 := dgV_le hq
          have hQ2 : digP s q = .ok (dgV s q, q + 1) := by unfold digP; rw [hq]; rfl
          have HE : Hid (numL s (3 - (n + 1)) (v * 10 + dgV s q) (q + 1) = numL s 2 (dgV s p) (p + 1)) := by
            have := HNL.out
            rw [show 3 - n = (2 - n) + 1 by have := HNN.out; omega] at this
            rw [← this]
            show _ = (if dgB s q = true then numL s (2 - n) (v * 10 + dgV s q) (q + 1) else (v, q))
            rw [hq, if_pos rfl]
            rw [show 3 - (n + 1) = 2 - n by omega]
          go_upto_region 4 with (first | (go_at_call 75; refine (more_any DCq.out).mono ?_; rintro e w2 ⟨rfl, f2⟩; rw [hq]) | fail)
          have DC2 := hid (DCq.out.fr f2 (fun h => h))
          have F2 := hid (FR.out.trans (f2.mono (fun _ _ h => h.elim)))
          clear f2
          go_wp2_with fail
          refine (digit_any DC2.out).mono ?_
          rintro e w3 ⟨hpost, f3⟩
          rw [hQ2] at hpost
          obtain ⟨rfl, dc3⟩ := hpost
          have DC3 := hid dc3
          have F3 := hid (F2.out.trans f3)
          clear dc3 f3 hQ2
          unfold iV
          obtain ⟨d0, d9⟩ := hd9
          go_wp2_with fail
          exact ⟨⟨v * 10 + dgV s q, n + 1, q + 1, by go_num, by go_num, DC3.out, F3.out, HE.out, by omega, by have := HNN.out; have := HCS.out; omega⟩, by simp [intOf]; omega⟩

end Go.Proofs.Qxb6500452a
