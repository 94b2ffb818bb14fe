/- Keeps: Owed. -/
import Derived.Test.Qxb6500451aKDue
namespace Go.Proofs.Qxb6500451a
open Go Go.RowKit
set_option maxRecDepth 100000
set_option maxHeartbeats 1600000
set_option linter.unusedSimpArgs false
set_option linter.unusedVariables false

/-- The law's own count of the Puts. -/
def PutsAt (w : World) (P : Nat) (r : Int → Nat) : Prop := ∀ i : Nat, i < 11 → At w P i (.int .i64 (r (i : Int) : Int))
theorem PutsAt.fr {w w' : World} {P : Nat} {r : Int → Nat} (h : PutsAt w P r) {S : Nat → Prop} (hf : Fr S w w') (hn : ¬ S P) : PutsAt w' P r := fun i hi => (h i hi).fr hf hn

theorem getP_e (f : DocF) (a : Int) : delE f a = (getP f a).e := by
  unfold delE getP
  rcases goodB a with _ | _
  · rfl
  · obtain e | ⟨d, e⟩ := opt (f a)
    · rw [e]; rfl
    · rw [e]; rfl

/-- How many of 1 .. k-1 are of the group. -/
def cTo (f : DocF) (g : Int) (k : Nat) : Nat := (nine.take (k - 1)).countP (has f g)
theorem cTo_step {f : DocF} {g : Int} {k : Nat} (h1 : 1 ≤ k) (h2 : k < 10) : cTo f g (k + 1) = cTo f g k + (if (getP f k).e = 0 ∧ (getP f k).g = g then 1 else 0) := by
  have h : (nine.take k).countP (has f g) = (nine.take (k - 1)).countP (has f g) + (if has f g (k : Int) then 1 else 0) := by
    have : k = 1 ∨ k = 2 ∨ k = 3 ∨ k = 4 ∨ k = 5 ∨ k = 6 ∨ k = 7 ∨ k = 8 ∨ k = 9 := by omega
    rcases this with rfl | rfl | rfl | rfl | rfl | rfl | rfl | rfl | rfl <;> simp [nine, List.countP_cons] <;> omega
  unfold cTo
  rw [Nat.add_sub_cancel, h]
  rcases getP_good (f := f) (i := (k : Int)) (by omega) (by omega) with ⟨e1, e2⟩ | ⟨d, e1, e2⟩
  · rw [e2]; simp [noGot, has, e1]
  · rw [e2]; simp [has, e1]
theorem cTo_ten (f : DocF) (g : Int) : cTo f g 10 = cnt f g := rfl
theorem cTo_le (f : DocF) (g : Int) (k : Nat) : cTo f g k ≤ 9 := by
  have h1 : cTo f g k ≤ (nine.take (k - 1)).length := List.countP_le_length
  have h2 : (nine.take (k - 1)).length ≤ nine.length := by simp; omega
  have : nine.length = 9 := rfl
  omega

/-- The ids among 1 .. k-1. -/
def iTo (f : DocF) (k : Nat) : List Int := (nine.take (k - 1)).filter fun i => (f i).isSome
theorem iTo_step {f : DocF} {k : Nat} (h1 : 1 ≤ k) (h2 : k < 10) : iTo f (k + 1) = iTo f k ++ (if (getP f k).e = 0 then [(k : Int)] else []) := by
  have h : (nine.take k).filter (fun i => (f i).isSome) = (nine.take (k - 1)).filter (fun i => (f i).isSome) ++ (if (f (k : Int)).isSome then [(k : Int)] else []) := by
    have hk : nine.take k = nine.take (k - 1) ++ [(k : Int)] := by
      have : k = 1 ∨ k = 2 ∨ k = 3 ∨ k = 4 ∨ k = 5 ∨ k = 6 ∨ k = 7 ∨ k = 8 ∨ k = 9 := by omega
      rcases this with rfl | rfl | rfl | rfl | rfl | rfl | rfl | rfl | rfl <;> rfl
    rw [hk, List.filter_append]
    congr 1
    simp [List.filter_cons]
  unfold iTo
  rw [Nat.add_sub_cancel, h]
  rcases getP_good (f := f) (i := (k : Int)) (by omega) (by omega) with ⟨e1, e2⟩ | ⟨d, e1, e2⟩
  · rw [e1, e2]; simp [noGot]
  · rw [e1, e2]; simp
theorem iTo_ten (f : DocF) : iTo f 10 = ids f := rfl
theorem iTo_len (f : DocF) (k : Nat) : (iTo f k).length ≤ 9 := by
  have h1 : (iTo f k).length ≤ (nine.take (k - 1)).length := List.length_filter_le _ _
  have h2 : (nine.take (k - 1)).length ≤ nine.length := by simp; omega
  have : nine.length = 9 := rfl
  omega
theorem iTo_mem {f : DocF} {k : Nat} {i : Int} (h : i ∈ iTo f k) : 1 ≤ i ∧ i ≤ 9 := nine_mem (List.mem_of_mem_take (List.mem_filter.1 h).1)

theorem owed_len {w : World} {D E P : Nat} {f : DocF} {r : Int → Nat} (hl : LkAt w D E f) (hp : PutsAt w P r) (hok : OkF f) (hrr : ∀ k, 1 ≤ r k → 1 ≤ k ∧ k ≤ 9) (o : Stp) (hk : o.kind = 5) :
    Calls Try.prog 19 #[o.val, .slice (some ⟨D, 0, none⟩) 10 10, .slice (some ⟨E, 0, none⟩) 10 10, .int .i64 (nDocs f : Int), .slice (some ⟨P, 0, none⟩) 11 11] w fun e w' => e = .returned (doV f r o) ∧ Fr (fun _ => False) w w' := by
  obtain ⟨kind, a, b, c, os, ot⟩ := o
  simp only at hk
  subst hk
  have hV : doV f r ⟨5, a, b, c, os, ot⟩ = ansV 0 (nDocs f : Int) 0 ⟨#[]⟩ := by simp [doV, doE, doN, doM, doT]
  rw [hV]
  clear hV
  simp only [Stp.val, ansV]
  have HL := hid hl
  have HP := hid hp
  have HOK := hid hok
  have HRR := hid hrr
  have fW : ∀ c1 c2, Fr (fun _ => False) w ((w.alloc c1).alloc c2) := fun c1 c2 => ((Fr.refl _ _).alloc _).alloc _
  clear hl hp hok hrr
  go_enter Try.func19, Try.ntmps19
  go_wp2_with (first
    | (go_at_call 37; refine (named_any (HL.out.fr (fW _ _) (fun h => h) (fun h => h)) a).mono ?_; rintro e w1 ⟨rfl, hw1⟩; obtain rfl := hw1.symm)
    | go_in)
  exact bodyPost_ret (v := ansV 0 (nDocs f : Int) 0 ⟨#[]⟩) (by simp [results, Try.results19, go_sem, ansV]) rfl ⟨rfl, fW _ _⟩

theorem owed_check {w : World} {D E P : Nat} {f : DocF} {r : Int → Nat} (hl : LkAt w D E f) (hp : PutsAt w P r) (hok : OkF f) (hrr : ∀ k, 1 ≤ r k → 1 ≤ k ∧ k ≤ 9) (o : Stp) (hk : o.kind = 10) :
    Calls Try.prog 19 #[o.val, .slice (some ⟨D, 0, none⟩) 10 10, .slice (some ⟨E, 0, none⟩) 10 10, .int .i64 (nDocs f : Int), .slice (some ⟨P, 0, none⟩) 11 11] w fun e w' => e = .returned (doV f r o) ∧ Fr (fun _ => False) w w' := by
  obtain ⟨kind, a, b, c, os, ot⟩ := o
  simp only at hk
  subst hk
  have hV : doV f r ⟨10, a, b, c, os, ot⟩ = ansV 0 0 0 ⟨#[]⟩ := by simp [doV, doE, doN, doM, doT]
  rw [hV]
  clear hV
  simp only [Stp.val, ansV]
  have HL := hid hl
  have HP := hid hp
  have HOK := hid hok
  have HRR := hid hrr
  have fW : ∀ c1 c2, Fr (fun _ => False) w ((w.alloc c1).alloc c2) := fun c1 c2 => ((Fr.refl _ _).alloc _).alloc _
  clear hl hp hok hrr
  go_enter Try.func19, Try.ntmps19
  go_wp2_with (first
    | (go_at_call 37; refine (named_any (HL.out.fr (fW _ _) (fun h => h) (fun h => h)) a).mono ?_; rintro e w1 ⟨rfl, hw1⟩; obtain rfl := hw1.symm)
    | go_in)
  exact bodyPost_ret (v := ansV 0 0 0 ⟨#[]⟩) (by simp [results, Try.results19, go_sem, ansV]) rfl ⟨rfl, fW _ _⟩

theorem owed_del {w : World} {D E P : Nat} {f : DocF} {r : Int → Nat} (hl : LkAt w D E f) (hp : PutsAt w P r) (hok : OkF f) (hrr : ∀ k, 1 ≤ r k → 1 ≤ k ∧ k ≤ 9) (o : Stp) (hk : o.kind = 3) :
    Calls Try.prog 19 #[o.val, .slice (some ⟨D, 0, none⟩) 10 10, .slice (some ⟨E, 0, none⟩) 10 10, .int .i64 (nDocs f : Int), .slice (some ⟨P, 0, none⟩) 11 11] w fun e w' => e = .returned (doV f r o) ∧ Fr (fun _ => False) w w' := by
  obtain ⟨kind, a, b, c, os, ot⟩ := o
  simp only at hk
  subst hk
  have hV : doV f r ⟨3, a, b, c, os, ot⟩ = ansV (delE f a) 0 0 ⟨#[]⟩ := by simp [doV, doE, doN, doM, doT]
  rw [hV]
  clear hV
  simp only [Stp.val, ansV]
  have HL := hid hl
  have HP := hid hp
  have HOK := hid hok
  have HRR := hid hrr
  have fW : ∀ c1 c2, Fr (fun _ => False) w ((w.alloc c1).alloc c2) := fun c1 c2 => ((Fr.refl _ _).alloc _).alloc _
  clear hl hp hok hrr
  rw [getP_e]
  go_enter Try.func19, Try.ntmps19
  go_wp2_with (first
    | (go_at_call 37; refine (named_any (HL.out.fr (fW _ _) (fun h => h) (fun h => h)) a).mono ?_; rintro e w1 ⟨rfl, hw1⟩; obtain rfl := hw1.symm)
    | go_in)
  exact bodyPost_ret (v := ansV (getP f a).e 0 0 ⟨#[]⟩) (by simp [results, Try.results19, go_sem, ansV]) rfl ⟨rfl, fW _ _⟩

theorem owed_reset {w : World} {D E P : Nat} {f : DocF} {r : Int → Nat} (hl : LkAt w D E f) (hp : PutsAt w P r) (hok : OkF f) (hrr : ∀ k, 1 ≤ r k → 1 ≤ k ∧ k ≤ 9) (o : Stp) (hk : o.kind = 11) :
    Calls Try.prog 19 #[o.val, .slice (some ⟨D, 0, none⟩) 10 10, .slice (some ⟨E, 0, none⟩) 10 10, .int .i64 (nDocs f : Int), .slice (some ⟨P, 0, none⟩) 11 11] w fun e w' => e = .returned (doV f r o) ∧ Fr (fun _ => False) w w' := by
  obtain ⟨kind, a, b, c, os, ot⟩ := o
  simp only at hk
  subst hk
  have hV : doV f r ⟨11, a, b, c, os, ot⟩ = ansV 0 (nDocs f : Int) 0 ⟨#[]⟩ := by simp [doV, doE, doN, doM, doT]
  rw [hV]
  clear hV
  simp only [Stp.val, ansV]
  have HL := hid hl
  have HP := hid hp
  have HOK := hid hok
  have HRR := hid hrr
  have fW : ∀ c1 c2, Fr (fun _ => False) w ((w.alloc c1).alloc c2) := fun c1 c2 => ((Fr.refl _ _).alloc _).alloc _
  clear hl hp hok hrr
  go_enter Try.func19, Try.ntmps19
  go_wp2_with (first
    | (go_at_call 37; refine (named_any (HL.out.fr (fW _ _) (fun h => h) (fun h => h)) a).mono ?_; rintro e w1 ⟨rfl, hw1⟩; obtain rfl := hw1.symm)
    | go_in)
  exact bodyPost_ret (v := ansV 0 (nDocs f : Int) 0 ⟨#[]⟩) (by simp [results, Try.results19, go_sem, ansV]) rfl ⟨rfl, fW _ _⟩

theorem owed_revs {w : World} {D E P : Nat} {f : DocF} {r : Int → Nat} (hl : LkAt w D E f) (hp : PutsAt w P r) (hok : OkF f) (hrr : ∀ k, 1 ≤ r k → 1 ≤ k ∧ k ≤ 9) (o : Stp) (hk : o.kind = 8) :
    Calls Try.prog 19 #[o.val, .slice (some ⟨D, 0, none⟩) 10 10, .slice (some ⟨E, 0, none⟩) 10 10, .int .i64 (nDocs f : Int), .slice (some ⟨P, 0, none⟩) 11 11] w fun e w' => e = .returned (doV f r o) ∧ Fr (fun _ => False) w w' := by
  obtain ⟨kind, a, b, c, os, ot⟩ := o
  simp only at hk
  subst hk
  have hV : doV f r ⟨8, a, b, c, os, ot⟩ = ansV 0 (r a : Int) 0 ⟨#[]⟩ := by simp [doV, doE, doN, doM, doT]
  rw [hV]
  clear hV
  simp only [Stp.val, ansV]
  have HL := hid hl
  have HP := hid hp
  have HOK := hid hok
  have HRR := hid hrr
  have fW : ∀ c1 c2, Fr (fun _ => False) w ((w.alloc c1).alloc c2) := fun c1 c2 => ((Fr.refl _ _).alloc _).alloc _
  clear hl hp hok hrr
  by_cases hg : 1 ≤ a ∧ a ≤ 9
  · have hne : ((getP f a).e == 2) = false := by
      rcases getP_good (f := f) hg.1 hg.2 with ⟨_, e⟩ | ⟨d, _, e⟩ <;> rw [e] <;> simp [noGot]
    obtain ⟨n, rfl⟩ : ∃ n : Nat, a = (n : Int) := ⟨a.toNat, by omega⟩
    have ca := (((HP.out n (by omega)).fr (fW (.cells #[.int .i64 8, .int .i64 (n : Int), .int .i64 b, .int .i64 c, .string os, .string ot] 36) (.cells #[.int .i64 0, .int .i64 0, .int .i64 0, .string ⟨#[]⟩] 43)) (fun h => h))).c
    have hi0 : (0 : Int) ≤ (n : Int) := by omega
    have hi1 : (n : Int) < 11 := by omega
    clear hg
    generalize (r (n : Int) : Int) = rv at *
    go_enter Try.func19, Try.ntmps19
    go_wp2_with fail
    refine (named_any (HL.out.fr (fW _ _) (fun h => h) (fun h => h)) (n : Int)).mono ?_
    rintro e w1 ⟨rfl, hw1⟩
    obtain rfl := hw1.symm
    generalize (getP f (n : Int)).e = ev at *
    go_wp2_with fail
    exact bodyPost_ret (v := ansV 0 rv 0 ⟨#[]⟩) (by simp [results, Try.results19, go_sem, ansV]) rfl ⟨rfl, fW _ _⟩
  · have h2 : getP f a = noGot 2 := getP_bad hg
    have hz : r a = 0 := by
      rcases Nat.eq_zero_or_pos (r a) with h0 | h0
      · exact h0
      · exact absurd (HRR.out a h0) hg
    have HZ := hid hz
    have H2 := hid h2
    clear hz h2 hg
    rw [HZ.out]
    go_enter Try.func19, Try.ntmps19
    go_wp2_with (first
      | (go_at_call 37; refine (named_any (HL.out.fr (fW _ _) (fun h => h) (fun h => h)) a).mono ?_; rintro e w1 ⟨rfl, hw1⟩; obtain rfl := hw1.symm; rw [H2.out]; simp only [noGot])
      | go_in)
    exact bodyPost_ret (v := ansV 0 0 0 ⟨#[]⟩) (by simp [results, Try.results19, go_sem, ansV]) rfl ⟨rfl, fW _ _⟩

theorem owed_get {w : World} {D E P : Nat} {f : DocF} {r : Int → Nat} (hl : LkAt w D E f) (hp : PutsAt w P r) (hok : OkF f) (hrr : ∀ k, 1 ≤ r k → 1 ≤ k ∧ k ≤ 9) (o : Stp) (hk : o.kind = 2) :
    Calls Try.prog 19 #[o.val, .slice (some ⟨D, 0, none⟩) 10 10, .slice (some ⟨E, 0, none⟩) 10 10, .int .i64 (nDocs f : Int), .slice (some ⟨P, 0, none⟩) 11 11] w fun e w' => e = .returned (doV f r o) ∧ Fr (fun _ => False) w w' := by
  obtain ⟨kind, a, b, c, os, ot⟩ := o
  simp only at hk
  subst hk
  have hV : doV f r ⟨2, a, b, c, os, ot⟩ = ansV (getP f a).e (getP f a).i (getP f a).g (getP f a).t := by simp [doV, doE, doN, doM, doT]
  rw [hV]
  clear hV
  simp only [Stp.val, ansV]
  have HL := hid hl
  have HP := hid hp
  have HOK := hid hok
  have HRR := hid hrr
  have fW : ∀ c1 c2, Fr (fun _ => False) w ((w.alloc c1).alloc c2) := fun c1 c2 => ((Fr.refl _ _).alloc _).alloc _
  clear hl hp hok hrr
  by_cases he : (getP f a).e = 0
  · have hg : 1 ≤ a ∧ a ≤ 9 := by
      rcases Classical.em (1 ≤ a ∧ a ≤ 9) with h | h
      · exact h
      · rw [getP_bad h] at he; simp [noGot] at he
    obtain ⟨n, rfl⟩ : ∃ n : Nat, a = (n : Int) := ⟨a.toNat, by omega⟩
    have g0 := ((HL.out.d0 n (by omega) (by omega)).fr (fW (.cells #[.int .i64 2, .int .i64 (n : Int), .int .i64 b, .int .i64 c, .string os, .string ot] 36) (.cells #[.int .i64 0, .int .i64 0, .int .i64 0, .string ⟨#[]⟩] 43)) (fun h => h)).c
    have g1 := ((HL.out.d1 n (by omega) (by omega)).fr (fW (.cells #[.int .i64 2, .int .i64 (n : Int), .int .i64 b, .int .i64 c, .string os, .string ot] 36) (.cells #[.int .i64 0, .int .i64 0, .int .i64 0, .string ⟨#[]⟩] 43)) (fun h => h)).c
    have g2 := ((HL.out.d2 n (by omega) (by omega)).fr (fW (.cells #[.int .i64 2, .int .i64 (n : Int), .int .i64 b, .int .i64 c, .string os, .string ot] 36) (.cells #[.int .i64 0, .int .i64 0, .int .i64 0, .string ⟨#[]⟩] 43)) (fun h => h)).c
    have hi0 : (0 : Int) ≤ (n : Int) := by omega
    have hi1 : (n : Int) < 10 := by omega
    have B0 : Box ((w.alloc (.cells #[.int .i64 2, .int .i64 (n : Int), .int .i64 b, .int .i64 c, .string os, .string ot] 36)).alloc (.cells #[.int .i64 0, .int .i64 0, .int .i64 0, .string ⟨#[]⟩] 43)) (w.heap.size + 1) := by
      have := Box.new (w.alloc (.cells #[.int .i64 2, .int .i64 (n : Int), .int .i64 b, .int .i64 c, .string os, .string ot] 36))
      simp only [World.size_alloc] at this
      exact this
    have BX := hid B0
    have HE := hid he
    rw [HE.out]
    clear hg he B0
    go_enter Try.func19, Try.ntmps19
    go_wp2_with fail
    refine (named_any (HL.out.fr (fW _ _) (fun h => h) (fun h => h)) (n : Int)).mono ?_
    rintro e w1 ⟨rfl, hw1⟩
    obtain rfl := hw1.symm
    rw [HE.out]
    go_wp2_with fail
    have hq := got_any (getP f (n : Int)).i (getP f (n : Int)).g 0 (getP f (n : Int)).t ((w.alloc (.cells #[.int .i64 2, .int .i64 (n : Int), .int .i64 b, .int .i64 c, .string os, .string ot] 36)).alloc (.cells #[.int .i64 0, .int .i64 0, .int .i64 0, .string ⟨#[]⟩] 43))
    simp only [docV, ansV] at hq
    refine hq.mono ?_
    clear hq g0 g1 g2
    rintro e w2 ⟨rfl, hf2⟩
    have B := hid (BX.out.fr hf2 (fun h => h))
    have HF := hid ((fW _ _).trans hf2)
    have HPA : Hid (w.heap.size ≤ w.heap.size + 1) := Nat.le_succ _
    clear hf2 BX
    generalize w.heap.size + 1 = pa at *
    have c0 := B.out.a0.c
    have c1 := B.out.a1.c
    have c2 := B.out.a2.c
    have c3 := B.out.a3.c
    have f0 := B.out.a0.f
    have f1 := B.out.a1.f
    have f2 := B.out.a2.f
    have f3 := B.out.a3.f
    go_wp2_with fail
    exact retA Try.results19 rfl rfl B.out.a0.has B.out.a1.has B.out.a2.has B.out.a3.has ⟨rfl, HF.out.then (box_fr _ _ _ _ _ _) (fun i hi e => by have := HPA.out; omega)⟩
  · have hq : getP f a = noGot (getP f a).e := by
      rcases Classical.em (1 ≤ a ∧ a ≤ 9) with h | h
      · rcases getP_good (f := f) h.1 h.2 with ⟨_, e⟩ | ⟨d, _, e⟩
        · rw [e]; rfl
        · rw [e] at he; simp at he
      · rw [getP_bad h]; rfl
    have heb : ((getP f a).e != 0) = true := by simp [he]
    have HQ := hid hq
    rw [show (getP f a).i = 0 by rw [HQ.out]; rfl, show (getP f a).g = 0 by rw [HQ.out]; rfl, show (getP f a).t = ⟨#[]⟩ by rw [HQ.out]; rfl]
    clear hq he
    go_enter Try.func19, Try.ntmps19
    go_wp2_with fail
    refine (named_any (HL.out.fr (fW _ _) (fun h => h) (fun h => h)) a).mono ?_
    rintro e w1 ⟨rfl, hw1⟩
    obtain rfl := hw1.symm
    clear HQ
    go_wp2_with fail
    exact bodyPost_ret (v := ansV (getP f a).e 0 0 ⟨#[]⟩) (by simp [results, Try.results19, go_sem, ansV]) rfl ⟨rfl, fW _ _⟩

theorem owed_put {w : World} {D E P : Nat} {f : DocF} {r : Int → Nat} (hl : LkAt w D E f) (hp : PutsAt w P r) (hok : OkF f) (hrr : ∀ k, 1 ≤ r k → 1 ≤ k ∧ k ≤ 9) (o : Stp) (hk : o.kind = 1) :
    Calls Try.prog 19 #[o.val, .slice (some ⟨D, 0, none⟩) 10 10, .slice (some ⟨E, 0, none⟩) 10 10, .int .i64 (nDocs f : Int), .slice (some ⟨P, 0, none⟩) 11 11] w fun e w' => e = .returned (doV f r o) ∧ Fr (fun _ => False) w w' := by
  obtain ⟨kind, a, b, c, os, ot⟩ := o
  simp only at hk
  subst hk
  have hV : doV f r ⟨1, a, b, c, os, ot⟩ = ansV (putE f a b os) 0 0 ⟨#[]⟩ := by simp [doV, doE, doN, doM, doT]
  rw [hV]
  clear hV
  simp only [Stp.val, ansV]
  have HL := hid hl
  have HP := hid hp
  have HOK := hid hok
  have HRR := hid hrr
  have fW : ∀ c1 c2, Fr (fun _ => False) w ((w.alloc c1).alloc c2) := fun c1 c2 => ((Fr.refl _ _).alloc _).alloc _
  clear hl hp hok hrr
  by_cases ht : 12 < os.size
  · have HE : Hid (putE f a b os = 1) := by simp [Hid, putE, ht]
    have hti : (12 : Int) < (os.size : Int) := by omega
    rw [HE.out]
    clear ht
    go_enter Try.func19, Try.ntmps19
    go_wp2_with (first
      | (go_at_call 37; refine (named_any (HL.out.fr (fW _ _) (fun h => h) (fun h => h)) a).mono ?_; rintro e w1 ⟨rfl, hw1⟩; obtain rfl := hw1.symm)
      | go_in)
    exact bodyPost_ret (v := ansV 1 0 0 ⟨#[]⟩) (by simp [results, Try.results19, go_sem, ansV]) rfl ⟨rfl, fW _ _⟩
  have hti : ¬ (12 : Int) < (os.size : Int) := by omega
  by_cases hg : 1 ≤ a ∧ a ≤ 9
  rotate_left
  · have hgb : goodB a = false := by simp [goodB]; omega
    have HE : Hid (putE f a b os = 2) := by simp [Hid, putE, ht, hgb]
    have H2 := hid (getP_bad (f := f) hg)
    rw [HE.out]
    clear ht hg hgb
    go_enter Try.func19, Try.ntmps19
    go_wp2_with (first
      | (go_at_call 37; refine (named_any (HL.out.fr (fW _ _) (fun h => h) (fun h => h)) a).mono ?_; rintro e w1 ⟨rfl, hw1⟩; obtain rfl := hw1.symm; rw [H2.out]; simp only [noGot])
      | go_in)
    exact bodyPost_ret (v := ansV 2 0 0 ⟨#[]⟩) (by simp [results, Try.results19, go_sem, ansV]) rfl ⟨rfl, fW _ _⟩
  have hgb : goodB a = true := by simp [goodB]; omega
  have hne : ((getP f a).e == 2) = false := by
    rcases getP_good (f := f) hg.1 hg.2 with ⟨_, e⟩ | ⟨d, _, e⟩ <;> rw [e] <;> simp [noGot]
  by_cases hgl : b < 0
  · have HE : Hid (putE f a b os = 3) := by simp [Hid, putE, ht, hgb, hgl]
    rw [HE.out]
    clear ht hg hgb
    go_enter Try.func19, Try.ntmps19
    go_wp2_with (first
      | (go_at_call 37; refine (named_any (HL.out.fr (fW _ _) (fun h => h) (fun h => h)) a).mono ?_; rintro e w1 ⟨rfl, hw1⟩; obtain rfl := hw1.symm)
      | go_in)
    exact bodyPost_ret (v := ansV 3 0 0 ⟨#[]⟩) (by simp [results, Try.results19, go_sem, ansV]) rfl ⟨rfl, fW _ _⟩
  by_cases hgh : 2 < b
  · have HE : Hid (putE f a b os = 3) := by simp [Hid, putE, ht, hgb, hgh]
    rw [HE.out]
    clear ht hg hgb
    go_enter Try.func19, Try.ntmps19
    go_wp2_with (first
      | (go_at_call 37; refine (named_any (HL.out.fr (fW _ _) (fun h => h) (fun h => h)) a).mono ?_; rintro e w1 ⟨rfl, hw1⟩; obtain rfl := hw1.symm)
      | go_in)
    exact bodyPost_ret (v := ansV 3 0 0 ⟨#[]⟩) (by simp [results, Try.results19, go_sem, ansV]) rfl ⟨rfl, fW _ _⟩
  have hts : os.size ≤ 1000000 := by omega
  have PL := fun w => plain_any os w hts
  rcases hok : textOK os with _ | _
  · have HE : Hid (putE f a b os = 4) := by simp [Hid, putE, ht, hgb, hgl, hgh, hok]
    rw [HE.out]
    clear ht hg hgb PL
    go_enter Try.func19, Try.ntmps19
    go_wp2_with (first
      | (go_at_call 37; refine (named_any (HL.out.fr (fW _ _) (fun h => h) (fun h => h)) a).mono ?_; rintro e w1 ⟨rfl, hw1⟩; obtain rfl := hw1.symm)
      | (go_at_call 38; refine (plain_any os _ hts).mono ?_; rintro e w1 ⟨rfl, hw1⟩; obtain rfl := hw1.symm; rw [hok])
      | go_in)
    exact bodyPost_ret (v := ansV 4 0 0 ⟨#[]⟩) (by simp [results, Try.results19, go_sem, ansV]) rfl ⟨rfl, fW _ _⟩
  rcases getP_good (f := f) hg.1 hg.2 with ⟨e1, e2⟩ | ⟨d, e1, e2⟩
  · have H2 := hid e2
    clear PL hne
    by_cases hn6 : nDocs f = 6
    · have HE : Hid (putE f a b os = 5) := by simp [Hid, putE, ht, hgb, hgl, hgh, hok, e1, hn6]
      have hn6' : ((nDocs f : Int) == 6) = true := by simp; omega
      rw [HE.out]
      clear ht hg hgb e1 e2 hn6
      go_enter Try.func19, Try.ntmps19
      go_wp2_with (first
        | (go_at_call 37; refine (named_any (HL.out.fr (fW _ _) (fun h => h) (fun h => h)) a).mono ?_; rintro e w1 ⟨rfl, hw1⟩; obtain rfl := hw1.symm; rw [H2.out]; simp only [noGot])
        | (go_at_call 38; refine (plain_any os _ hts).mono ?_; rintro e w1 ⟨rfl, hw1⟩; obtain rfl := hw1.symm; rw [hok])
        | go_in)
      exact bodyPost_ret (v := ansV 5 0 0 ⟨#[]⟩) (by simp [results, Try.results19, go_sem, ansV]) rfl ⟨rfl, fW _ _⟩
    · have HE : Hid (putE f a b os = 0) := by simp [Hid, putE, ht, hgb, hgl, hgh, hok, hn6]
      have hn6' : ((nDocs f : Int) == 6) = false := by simp; omega
      rw [HE.out]
      clear ht hg hgb e1 e2 hn6
      go_enter Try.func19, Try.ntmps19
      go_wp2_with (first
        | (go_at_call 37; refine (named_any (HL.out.fr (fW _ _) (fun h => h) (fun h => h)) a).mono ?_; rintro e w1 ⟨rfl, hw1⟩; obtain rfl := hw1.symm; rw [H2.out]; simp only [noGot])
        | (go_at_call 38; refine (plain_any os _ hts).mono ?_; rintro e w1 ⟨rfl, hw1⟩; obtain rfl := hw1.symm; rw [hok])
        | go_in)
      exact bodyPost_ret (v := ansV 0 0 0 ⟨#[]⟩) (by simp [results, Try.results19, go_sem, ansV]) rfl ⟨rfl, fW _ _⟩
  · have H2 := hid e2
    have HE : Hid (putE f a b os = 0) := by simp [Hid, putE, ht, hgb, hgl, hgh, hok, e1]
    rw [HE.out]
    clear ht hg hgb e1 e2 PL hne
    go_enter Try.func19, Try.ntmps19
    go_wp2_with (first
      | (go_at_call 37; refine (named_any (HL.out.fr (fW _ _) (fun h => h) (fun h => h)) a).mono ?_; rintro e w1 ⟨rfl, hw1⟩; obtain rfl := hw1.symm; rw [H2.out])
      | (go_at_call 38; refine (plain_any os _ hts).mono ?_; rintro e w1 ⟨rfl, hw1⟩; obtain rfl := hw1.symm; rw [hok])
      | go_in)
    exact bodyPost_ret (v := ansV 0 0 0 ⟨#[]⟩) (by simp [results, Try.results19, go_sem, ansV]) rfl ⟨rfl, fW _ _⟩

end Go.Proofs.Qxb6500451a
