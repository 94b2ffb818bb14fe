/- The model gate: serve: what its scan means. -/
import Derived.Test.Qxb6500452aHGate
import Derived.Test.Qxb6500452aGServe3
namespace Go.Proofs.Qxb6500452a
open Go Go.RowKit
set_option maxRecDepth 100000
set_option maxHeartbeats 1600000
set_option linter.unusedSimpArgs false
set_option linter.unusedVariables false

/-- What serve leaves. -/
def PostS (s : Led) (req : ByteArray) (X M : Nat) (w : World) (e : Ending) (w' : World) : Prop :=
  e = .returned (.tuple #[.string (srv s req).1, .int .i64 (srv s req).2.1]) ∧ ML w' X M (srv s req).2.2 ∧ Fr (SM X M) w w'
theorem srv_err {s : Led} {req : ByteArray} {q : Nat} (h : req.size ≤ 20) (hd : decP req = .error q) : srv s req = (atA q, 8, s) := by
  unfold srv; rw [if_neg (by omega), hd]
theorem srv_some {s : Led} {req : ByteArray} {c : Cmd} {x : ByteArray × Int} {t : Led} (h : req.size ≤ 20) (hd : decP req = .ok c) (hr : runP s c = some x) (ht : runS s c = t) : srv s req = (x.1, x.2, t) := by
  unfold srv; rw [if_neg (by omega), hd]; simp only; rw [hr, ht]
theorem srv_none {s : Led} {req : ByteArray} {c : Cmd} {t : Led} (h : req.size ≤ 20) (hd : decP req = .ok c) (hr : runP s c = none) (ht : runS s c = t) : srv s req = (⟨#[]⟩, 9, t) := by
  unfold srv; rw [if_neg (by omega), hd]; simp only; rw [hr, ht]

/-- What a reader leaves: a value and its place, or a fault that is remembered. -/
def RS {α : Type} (r : PR α) (v : α) (p' : Nat) (a' : Int) : Prop := (r = .ok (v, p') ∧ a' = -1) ∨ ∃ q : Nat, r = .error q ∧ a' = (q : Int)
theorem RS.ge {α : Type} {r : PR α} {v : α} {p' : Nat} {a' : Int} (h : RS r v p' a') : a' = -1 ∨ ∃ q : Nat, a' = (q : Int) := by
  rcases h with ⟨_, h⟩ | ⟨q, _, h⟩
  · exact .inl h
  · exact .inr ⟨q, h⟩
theorem sdigU {w : World} {C : Nat} {s : ByteArray} {p : Nat} (h : SN w C s p (-1)) : Calls Try.prog 97 #[.pointer (some ⟨C, 0, none⟩)] w fun e w' =>
    ∃ (v : Int) (p' : Nat) (a' : Int), e = .returned (.int .i64 v) ∧ SN w' C s p' a' ∧ RS (digP s p) v p' a' ∧ Fr (fun i => i = C) w w' := by
  refine (sdig_any h).mono ?_
  rintro e w1 ⟨hp, f⟩
  rcases hd : digP s p with q | ⟨v, p'⟩
  · rw [hd] at hp
    obtain ⟨⟨v, _, _, rfl⟩, p', sn⟩ := hp
    exact ⟨v, p', q, rfl, sn, .inr ⟨q, rfl, rfl⟩, f⟩
  · rw [hd] at hp
    obtain ⟨rfl, sn⟩ := hp
    exact ⟨v, p', -1, rfl, sn, .inl ⟨rfl, rfl⟩, f⟩
theorem RS_dig {s : ByteArray} {p p' : Nat} {v : Int} (h : RS (digP s p) v p' (-1)) : 0 ≤ v ∧ v ≤ 9 := by
  rcases h with ⟨h1, _⟩ | ⟨q, _, h2⟩
  · rcases digP_cases s p with ⟨hb, hd⟩ | ⟨hb, hd⟩
    · rw [hd] at h1
      cases h1
      exact dgV_le hb
    · rw [hd] at h1
      cases h1
  · omega
/-- Read on: from a place, or not at all behind a fault. -/
def bindP {α β : Type} (r : PR α) (f : α → Nat → PR β) : PR β := match r with | .error q => .error q | .ok x => f x.1 x.2
/-- The second digit: behind the first, or behind its fault. -/
theorem sdigW {w : World} {C : Nat} {s : ByteArray} {p0 p : Nat} {a v0 : Int} (h : SN w C s p a) (hr : RS (digP s p0) v0 p a) : Calls Try.prog 97 #[.pointer (some ⟨C, 0, none⟩)] w fun e w' =>
    ∃ (v : Int) (p' : Nat) (a' : Int), e = .returned (.int .i64 v) ∧ SN w' C s p' a' ∧ RS (bindP (digP s p0) fun x q => bindP (digP s q) fun y z => .ok ((x, y), z)) (v0, v) p' a' ∧ Fr (fun i => i = C) w w' := by
  rcases hr with ⟨hd, rfl⟩ | ⟨q, hd, rfl⟩
  · refine (sdigU h).mono ?_
    rintro e w1 ⟨v, p', a', rfl, sn, rs, f⟩
    refine ⟨v, p', a', rfl, sn, ?_, f⟩
    rw [hd]
    rcases rs with ⟨h1, h2⟩ | ⟨q, h1, h2⟩
    · exact .inl ⟨by simp only [bindP, h1], h2⟩
    · exact .inr ⟨q, by simp only [bindP, h1], h2⟩
  · refine (sdig_fault h (by omega)).mono ?_
    rintro e w1 ⟨rfl, hw⟩
    rw [hw]
    exact ⟨0, p, q, rfl, h, .inr ⟨q, by rw [hd]; rfl, rfl⟩, Fr.refl _ _⟩
theorem smoveU {w : World} {C : Nat} {s : ByteArray} {p : Nat} (h : SN w C s p (-1)) : Calls Try.prog 98 #[.pointer (some ⟨C, 0, none⟩)] w fun e w' =>
    ∃ (v : Mv) (p' : Nat) (a' : Int), e = .returned (Mv.val v) ∧ SN w' C s p' a' ∧ RS (movP s p) v p' a' ∧ Fr (fun i => i = C) w w' := by
  refine (smove_any h).mono ?_
  rintro e w1 ⟨hp, f⟩
  rcases hd : movP s p with q | ⟨v, p'⟩
  · rw [hd] at hp
    obtain ⟨⟨v, rfl⟩, p', sn⟩ := hp
    exact ⟨v, p', q, rfl, sn, .inr ⟨q, rfl, rfl⟩, f⟩
  · rw [hd] at hp
    obtain ⟨rfl, sn⟩ := hp
    exact ⟨v, p', -1, rfl, sn, .inl ⟨rfl, rfl⟩, f⟩
theorem smustW {w : World} {C : Nat} {s : ByteArray} {p0 p : Nat} {a : Int} {v0 : Mv} (h : SN w C s p a) (hr : RS (movP s p0) v0 p a) : Calls Try.prog 99 #[.pointer (some ⟨C, 0, none⟩), .int .u8 59] w fun e w' =>
    ∃ (p' : Nat) (a' : Int), e = .returned (.tuple #[]) ∧ SN w' C s p' a' ∧ RS (bindP (movP s p0) fun x q => bindP (mustP s q 59) fun _ z => .ok (x, z)) v0 p' a' ∧ Fr (fun i => i = C) w w' := by
  have hc : ((59 : UInt8).toNat : Int) = 59 := rfl
  rcases hr with ⟨hd, rfl⟩ | ⟨q, hd, rfl⟩
  · have hm := smust_any h 59
    rw [hc] at hm
    refine hm.mono ?_
    rintro e w1 ⟨hp, f⟩
    rw [hd]
    rcases hms : mustP s p 59 with q | ⟨⟨⟩, p'⟩
    · rw [hms] at hp
      obtain ⟨rfl, p', sn⟩ := hp
      exact ⟨p', q, rfl, sn, .inr ⟨q, by simp only [bindP, hms], rfl⟩, f⟩
    · rw [hms] at hp
      obtain ⟨rfl, sn⟩ := hp
      exact ⟨p', -1, rfl, sn, .inl ⟨by simp only [bindP, hms], rfl⟩, f⟩
  · have hm := smust_fault h (by omega) 59
    rw [hc] at hm
    refine hm.mono ?_
    rintro e w1 ⟨rfl, hw⟩
    rw [hw]
    exact ⟨p, q, rfl, h, .inr ⟨q, by rw [hd]; rfl, rfl⟩, Fr.refl _ _⟩

/-- The scan of a whole request: what stands behind it. -/
def scanP (s : ByteArray) (r : PR Cmd) : Except Nat Cmd := match r with | .error q => .error q | .ok x => if x.2 < s.size then .error x.2 else .ok x.1
theorem scan_end {s : ByteArray} {r : PR Cmd} {c : Cmd} {p : Nat} {a : Int} (h : RS r c p a) (hd : decP s = scanP s r) :
    (∃ q : Nat, a = (q : Int) ∧ decP s = .error q) ∨ (a = -1 ∧ p < s.size ∧ decP s = .error p) ∨ (a = -1 ∧ ¬ p < s.size ∧ decP s = .ok c) := by
  rcases h with ⟨h1, h2⟩ | ⟨q, h1, h2⟩
  · subst h1
    by_cases hp : p < s.size
    · exact .inr (.inl ⟨h2, hp, by rw [hd]; simp [scanP, hp]⟩)
    · exact .inr (.inr ⟨h2, hp, by rw [hd]; simp [scanP, hp]⟩)
  · exact .inl ⟨q, h2, by rw [hd, h1]; rfl⟩
theorem RS.map {α β : Type} {r : PR α} {v : α} {p : Nat} {a : Int} (h : RS r v p a) (f : α → β) : RS (bindP r fun x q => .ok (f x, q)) (f v) p a := by
  rcases h with ⟨h1, h2⟩ | ⟨q, h1, h2⟩
  · exact .inl ⟨by rw [h1]; rfl, h2⟩
  · exact .inr ⟨q, by rw [h1]; rfl, h2⟩

theorem decP_A {s : ByteArray} (hz : 0 < s.size) (hv : byU s 0 = 65) : decP s = scanP s (.ok (⟨65, ⟨0, 0, 0⟩, []⟩, 1)) := by
  unfold decP
  rw [show vbP s 0 = .ok (65, 1) by unfold vbP; rw [if_pos hz, hv]]
  by_cases h : 1 < s.size <;> simp [scanP, endP, h]
theorem decP_B {s : ByteArray} (hz : 0 < s.size) {b : UInt8} (hv : byU s 0 = b) (hb : b = 66 ∨ b = 78) : decP s = scanP s (bindP (digP s 1) fun x q => .ok (⟨b, ⟨x, 0, 0⟩, []⟩, q)) := by
  have hb1 : b ≠ 65 := by rcases hb with rfl | rfl <;> decide
  unfold decP
  rw [show vbP s 0 = .ok (b, 1) by unfold vbP; rw [if_pos hz, hv]]
  simp only [if_neg hb1, if_pos hb]
  rcases digP s 1 with q | ⟨v, p⟩
  · rfl
  · by_cases h : p < s.size <;> simp [scanP, endP, bindP, h]
theorem decP_S {s : ByteArray} (hz : 0 < s.size) (hv : byU s 0 = 83) : decP s = scanP s (bindP (bindP (digP s 1) fun x q => bindP (digP s q) fun y z => .ok ((x, y), z)) fun x q => .ok (⟨83, ⟨x.1, x.2, 0⟩, []⟩, q)) := by
  unfold decP
  rw [show vbP s 0 = .ok (83, 1) by unfold vbP; rw [if_pos hz, hv]]
  simp only [if_neg (show ¬ (83 : UInt8) = 65 by decide), if_neg (show ¬ ((83 : UInt8) = 66 ∨ (83 : UInt8) = 78) by decide), if_true]
  rcases digP s 1 with q | ⟨v, p⟩
  · rfl
  · simp only [bindP]
    rcases digP s p with q | ⟨v, p⟩
    · rfl
    · by_cases h : p < s.size <;> simp [scanP, endP, bindP, h]
theorem decP_T {s : ByteArray} (hz : 0 < s.size) (hv : byU s 0 = 84) : decP s = scanP s (bindP (movP s 1) fun x q => .ok (⟨84, x, []⟩, q)) := by
  unfold decP
  rw [show vbP s 0 = .ok (84, 1) by unfold vbP; rw [if_pos hz, hv]]
  simp only [if_neg (show ¬ (84 : UInt8) = 65 by decide), if_neg (show ¬ ((84 : UInt8) = 66 ∨ (84 : UInt8) = 78) by decide), if_neg (show ¬ (84 : UInt8) = 83 by decide), if_true]
  rcases movP s 1 with q | ⟨v, p⟩
  · rfl
  · by_cases h : p < s.size <;> simp [scanP, endP, bindP, h]
theorem decP_X {s : ByteArray} (hz : 0 < s.size) (hv : byU s 0 = 88) : decP s = scanP s (bindP (movsP s 21 1 []) fun x q => .ok (⟨88, ⟨0, 0, 0⟩, x⟩, q)) := by
  unfold decP
  rw [show vbP s 0 = .ok (88, 1) by unfold vbP; rw [if_pos hz, hv]]
  simp only [if_neg (show ¬ (88 : UInt8) = 65 by decide), if_neg (show ¬ ((88 : UInt8) = 66 ∨ (88 : UInt8) = 78) by decide), if_neg (show ¬ (88 : UInt8) = 83 by decide), if_neg (show ¬ (88 : UInt8) = 84 by decide), if_true]
  rcases movsP s 21 1 [] with q | ⟨v, p⟩
  · rfl
  · by_cases h : p < s.size <;> simp [scanP, endP, bindP, h]
/-- The loop of moves: still to run, or done. -/
def XS (s : ByteArray) (n q : Nat) (a : Int) (l : List Mv) : Prop :=
  (a = -1 ∧ (n = 0 ∨ q < s.size) ∧ q ≤ 20 ∧ n ≤ q ∧ l.length = n ∧ ∃ k, movsP s (k + 1) q l = movsP s 21 1 [] ∧ 21 ≤ k + q) ∨
  (n ≠ 0 ∧ n ≤ 21 ∧ (∃ y, a = ((y : Nat) : Int)  ∨ (a = -1 ∧ ¬ q < s.size)) ∧ RS (movsP s 21 1 []) l q a)
theorem XS.start (s : ByteArray) : XS s 0 1 (-1) [] := .inl ⟨rfl, .inl rfl, by omega, by omega, rfl, 20, rfl, by omega⟩
theorem XS.step {s : ByteArray} {n q p' k : Nat} {a' : Int} {l : List Mv} {m : Mv} (hs : s.size ≤ 20) (hq : q ≤ 20) (hn : n ≤ q) (hl : l.length = n) (hk : movsP s (k + 1) q l = movsP s 21 1 []) (h21 : 21 ≤ k + q)
    (rs : RS (bindP (movP s q) fun x q => bindP (mustP s q 59) fun _ z => .ok (x, z)) m p' a') : XS s (n + 1) p' a' (l ++ [m]) := by
  rw [show movsP s (k + 1) q l = (match movP s q with | .error q => .error q | .ok x => match mustP s x.2 59 with | .error q => .error q | .ok y => if y.2 < s.size then movsP s k y.2 (l ++ [x.1]) else .ok (l ++ [x.1], y.2)) from rfl] at hk
  rcases rs with ⟨h1, h2⟩ | ⟨y, h1, h2⟩
  · rcases hm : movP s q with e | ⟨x, p1⟩
    · rw [hm] at h1; cases h1
    · rw [hm] at h1 hk
      simp only [bindP] at h1 hk
      rcases hu : mustP s p1 59 with e | ⟨u, p2⟩
      · rw [hu] at h1; cases h1
      · rw [hu] at h1 hk
        simp only at h1 hk
        cases h1
        have hle1 := movP_le hm
        have hle2 := mustP_le hu
        by_cases hp : p' < s.size
        · rw [if_pos hp] at hk
          obtain ⟨k, rfl⟩ : ∃ k', k = k' + 1 := ⟨k - 1, by omega⟩
          exact .inl ⟨h2, .inr hp, by omega, by omega, by simp [hl], k, hk, by omega⟩
        · rw [if_neg hp] at hk
          exact .inr ⟨by omega, by omega, ⟨0, .inr ⟨h2, hp⟩⟩, .inl ⟨hk.symm, h2⟩⟩
  · refine .inr ⟨by omega, by omega, ⟨y, .inl h2⟩, .inr ⟨y, ?_, h2⟩⟩
    rcases hm : movP s q with e | ⟨x, p1⟩
    · rw [hm] at h1 hk
      simp only [bindP] at h1 hk
      cases h1
      exact hk.symm
    · rw [hm] at h1 hk
      simp only [bindP] at h1 hk
      rcases hu : mustP s p1 59 with e | ⟨u, p2⟩
      · rw [hu] at h1 hk
        simp only at h1 hk
        cases h1
        exact hk.symm
      · rw [hu] at h1; cases h1
theorem decP_none {s : ByteArray} (hz : ¬ 0 < s.size) : decP s = .error 0 := by
  unfold decP vbP; rw [if_neg hz]
theorem decP_other {s : ByteArray} (hz : 0 < s.size) (h1 : byU s 0 ≠ 65) (h2 : byU s 0 ≠ 66) (h3 : byU s 0 ≠ 78) (h4 : byU s 0 ≠ 83) (h5 : byU s 0 ≠ 84) (h6 : byU s 0 ≠ 88) : decP s = .error 0 := by
  unfold decP
  rw [show vbP s 0 = .ok (byU s 0, 1) by unfold vbP; rw [if_pos hz]]
  simp [h1, h2, h3, h4, h5, h6]

end Go.Proofs.Qxb6500452a
