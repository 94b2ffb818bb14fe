/- Keeps: Look, Named, Plain. -/
import Derived.Test.Qxb6500451aDo
import Derived.Test.Qxb6500451aExam
namespace Go.Proofs.Qxb6500451a
open Go Go.RowKit
set_option maxRecDepth 100000
set_option maxHeartbeats 1600000
set_option linter.unusedSimpArgs false
set_option linter.unusedVariables false

theorem plain_any (s : ByteArray) (w : World) (hs : s.size ≤ 1000000) :
    Calls Try.prog 38 #[.string s] w fun e w' => e = .returned (.bool (textOK s)) ∧ w' = w := by
  go_enter Try.func38, Try.ntmps38
  go_wp2_with fail
  go_loop [3] (fun i => ∃ k : Nat, k ≤ s.size ∧ i = .int .i64 k ∧ ((s.data.toList.take k).all fun c => okB c.toNat) = true) (fun i => s.size - (intOf i).toNat)
  case atStart => exact ⟨0, by omega, rfl, rfl⟩
  case round =>
    obtain ⟨k, hk, rfl, hall⟩ := hrel
    have hk0 : (0 : Int) ≤ (k : Int) := by omega
    have HA := hid hall
    clear hall
    by_cases hlt : k < s.size
    · have hkn : (k : Int) < (s.size : Int) := by omega
      have bad : okB s[k].toNat = false → textOK s = false := fun hb => by
        unfold textOK
        rw [List.all_eq_false]
        exact ⟨s[k], by simp [ByteArray.getElem_eq_getElem_data], by simp [hb]⟩
      have good : okB s[k].toNat = true → ((s.data.toList.take (k + 1)).all fun c => okB c.toNat) = true := fun hb => by
        rw [take_snoc s k hlt, List.all_append, HA.out]
        simp [hb]
      have BAD := hid bad
      have GOOD := hid good
      clear bad good
      by_cases h1 : s[k].toNat = 32
      · have b1 : ((s[k].toNat : Int) != 32) = false := by simp; omega
        have HO : Hid (okB s[k].toNat = true) := by simp [Hid, okB, h1]
        clear h1
        go_wp2_with fail
        exact ⟨⟨k + 1, by omega, by go_num, GOOD.out HO.out⟩, by simp [intOf]; omega⟩
      · have b1 : ((s[k].toNat : Int) != 32) = true := by simp; omega
        by_cases h2 : s[k].toNat < 97
        · have b2 : decide ((s[k].toNat : Int) < 97) = true := by simp; omega
          have HO : Hid (okB s[k].toNat = false) := by simp [Hid, okB, h1]; omega
          have HB := hid (BAD.out HO.out)
          clear h1 h2
          go_wp2_with fail
          go_ret
          rw [HB.out]
          exact ⟨rfl, rfl⟩
        · have b2 : decide ((s[k].toNat : Int) < 97) = false := by simp; omega
          by_cases h3 : 122 < s[k].toNat
          · have b3 : decide ((122 : Int) < (s[k].toNat : Int)) = true := by simp; omega
            have HO : Hid (okB s[k].toNat = false) := by simp [Hid, okB, h1]; omega
            have HB := hid (BAD.out HO.out)
            clear h1 h2 h3
            go_wp2_with fail
            go_ret
            rw [HB.out]
            exact ⟨rfl, rfl⟩
          · have b3 : decide ((122 : Int) < (s[k].toNat : Int)) = false := by simp; omega
            have HO : Hid (okB s[k].toNat = true) := by simp [Hid, okB, h1]; omega
            clear h1 h2 h3
            go_wp2_with fail
            exact ⟨⟨k + 1, by omega, by go_num, GOOD.out HO.out⟩, by simp [intOf]; omega⟩
    · have hkn : ¬ (k : Int) < (s.size : Int) := by omega
      have HE : Hid (textOK s = true) := by
        have := HA.out
        rw [List.take_of_length_le (by simp; omega)] at this
        exact this
      go_wp2_with fail
      go_ret
      rw [HE.out]
      exact ⟨rfl, rfl⟩

/-- What Look saw lies in the blocks D and E. -/
structure LkAt (w : World) (D E : Nat) (f : DocF) : Prop where
  d0 : ∀ i : Nat, 1 ≤ i → i < 10 → At w D (i * 3) (.int .i64 (getP f i).i)
  d1 : ∀ i : Nat, 1 ≤ i → i < 10 → At w D (i * 3 + 1) (.int .i64 (getP f i).g)
  d2 : ∀ i : Nat, 1 ≤ i → i < 10 → At w D (i * 3 + 2) (.string (getP f i).t)
  e : ∀ i : Nat, 1 ≤ i → i < 10 → At w E i (.int .i64 (getP f i).e)
theorem LkAt.fr {w w' : World} {D E : Nat} {f : DocF} (h : LkAt w D E f) {S : Nat → Prop} (hf : Fr S w w') (hd : ¬ S D) (he : ¬ S E) : LkAt w' D E f :=
  ⟨fun i h1 h2 => (h.d0 i h1 h2).fr hf hd, fun i h1 h2 => (h.d1 i h1 h2).fr hf hd, fun i h1 h2 => (h.d2 i h1 h2).fr hf hd, fun i h1 h2 => (h.e i h1 h2).fr hf he⟩
theorem LkAt.lt {w : World} {D E : Nat} {f : DocF} (h : LkAt w D E f) : D < w.heap.size ∧ E < w.heap.size := ⟨(h.d0 1 (by omega) (by omega)).lt, (h.e 1 (by omega) (by omega)).lt⟩

theorem getP_good {f : DocF} {i : Int} (h1 : 1 ≤ i) (h2 : i ≤ 9) : (f i = none ∧ getP f i = noGot 6) ∨ ∃ d, f i = some d ∧ getP f i = ⟨i, d.1, d.2, 0⟩ := by
  have hg : goodB i = true := by simp [goodB]; omega
  obtain e | ⟨d, e⟩ := opt (f i)
  · exact .inl ⟨e, by simp [getP, hg, e]⟩
  · exact .inr ⟨d, e, by simp [getP, hg, e]⟩
theorem getP_bad {f : DocF} {i : Int} (h : ¬ (1 ≤ i ∧ i ≤ 9)) : getP f i = noGot 2 := by
  have hg : goodB i = false := by simp [goodB]; omega
  simp [getP, hg]

theorem named_any {w : World} {D E : Nat} {f : DocF} (h : LkAt w D E f) (id : Int) :
    Calls Try.prog 37 #[.int .i64 id, .slice (some ⟨E, 0, none⟩) 10 10] w fun e w' => e = .returned (.int .i64 (getP f id).e) ∧ w' = w := by
  by_cases hg : 1 ≤ id ∧ id ≤ 9
  · obtain ⟨g1, g2⟩ := hg
    obtain ⟨n, rfl⟩ : ∃ n : Nat, id = (n : Int) := ⟨id.toNat, by omega⟩
    have c := (h.e n (by omega) (by omega)).c
    have hi0 : (0 : Int) ≤ (n : Int) := by omega
    have hl : (n : Int) < 10 := by omega
    clear h
    go_enter Try.func37, Try.ntmps37
    go_wp2_with fail
    go_ret
    exact ⟨rfl, rfl⟩
  · have HE := hid (getP_bad (f := f) hg)
    by_cases g1 : id < 1
    · clear hg
      go_enter Try.func37, Try.ntmps37
      go_wp2_with fail
      go_ret
      rw [HE.out]
      exact ⟨rfl, rfl⟩
    · have g2 : 9 < id := by omega
      clear hg
      go_enter Try.func37, Try.ntmps37
      go_wp2_with fail
      go_ret
      rw [HE.out]
      exact ⟨rfl, rfl⟩

def z30 : Array Value := #[.int .i64 0, .int .i64 0, .string ⟨#[]⟩, .int .i64 0, .int .i64 0, .string ⟨#[]⟩, .int .i64 0, .int .i64 0, .string ⟨#[]⟩, .int .i64 0, .int .i64 0, .string ⟨#[]⟩, .int .i64 0, .int .i64 0, .string ⟨#[]⟩, .int .i64 0, .int .i64 0, .string ⟨#[]⟩, .int .i64 0, .int .i64 0, .string ⟨#[]⟩, .int .i64 0, .int .i64 0, .string ⟨#[]⟩, .int .i64 0, .int .i64 0, .string ⟨#[]⟩, .int .i64 0, .int .i64 0, .string ⟨#[]⟩]
def z10 : Array Value := #[.int .i64 0, .int .i64 0, .int .i64 0, .int .i64 0, .int .i64 0, .int .i64 0, .int .i64 0, .int .i64 0, .int .i64 0, .int .i64 0]
theorem mk30 (w : World) : (Instr.makeSlice 37 (.int .i64 10) (.int .i64 10)).run Try.prog w = .ok (.slice (some ⟨w.heap.size, 0, none⟩) 10 10) (w.alloc (.cells z30 47)) := by kernel_rfl
theorem mk10 (w : World) : (Instr.makeSlice 38 (.int .i64 10) (.int .i64 10)).run Try.prog w = .ok (.slice (some ⟨w.heap.size, 0, none⟩) 10 10) (w.alloc (.cells z10 33)) := by kernel_rfl

/-- Look, as far as k: what is filled, and what is there to fill. -/
structure LkTo (w : World) (D E : Nat) (f : DocF) (k : Nat) : Prop where
  d0 : ∀ i : Nat, 1 ≤ i → i < k → At w D (i * 3) (.int .i64 (getP f i).i)
  d1 : ∀ i : Nat, 1 ≤ i → i < k → At w D (i * 3 + 1) (.int .i64 (getP f i).g)
  d2 : ∀ i : Nat, 1 ≤ i → i < k → At w D (i * 3 + 2) (.string (getP f i).t)
  e : ∀ i : Nat, 1 ≤ i → i < k → At w E i (.int .i64 (getP f i).e)
  h0 : ∀ i : Nat, i < 10 → Has w D (i * 3)
  h1 : ∀ i : Nat, i < 10 → Has w D (i * 3 + 1)
  h2 : ∀ i : Nat, i < 10 → Has w D (i * 3 + 2)
  he : ∀ i : Nat, i < 10 → Has w E i
theorem Has.fr {w w' : World} {b o : Nat} (h : Has w b o) {S : Nat → Prop} (hf : Fr S w w') (hn : ¬ S b) : Has w' b o := by
  obtain ⟨v, h⟩ := h
  exact ⟨v, h.fr hf hn⟩
theorem LkTo.fr {w w' : World} {D E : Nat} {f : DocF} {k : Nat} (h : LkTo w D E f k) {S : Nat → Prop} (hf : Fr S w w') (hd : ¬ S D) (he : ¬ S E) : LkTo w' D E f k :=
  ⟨fun i h1 h2 => (h.d0 i h1 h2).fr hf hd, fun i h1 h2 => (h.d1 i h1 h2).fr hf hd, fun i h1 h2 => (h.d2 i h1 h2).fr hf hd, fun i h1 h2 => (h.e i h1 h2).fr hf he,
    fun i hi => (h.h0 i hi).fr hf hd, fun i hi => (h.h1 i hi).fr hf hd, fun i hi => (h.h2 i hi).fr hf hd, fun i hi => (h.he i hi).fr hf he⟩

theorem At.sets {w : World} {b o : Nat} {v : Value} (h : At w b o v) {D E j m : Nat} {v0 v1 v2 v3 : Value} (h1 : b = D → o ≠ j ∧ o ≠ j + 1 ∧ o ≠ j + 2) (h2 : b = E → o ≠ m) :
    At ((((w.setCell ⟨D, j, none⟩ v0).setCell ⟨D, j + 1, none⟩ v1).setCell ⟨D, j + 2, none⟩ v2).setCell ⟨E, m, none⟩ v3) b o v :=
  (((h.other (fun e1 e2 => (h1 e1.symm).1 e2.symm) _).other (fun e1 e2 => (h1 e1.symm).2.1 e2.symm) _).other (fun e1 e2 => (h1 e1.symm).2.2 e2.symm) _).other (fun e1 e2 => h2 e1.symm e2.symm) _

theorem LkTo.step {w : World} {D E : Nat} {f : DocF} {k : Nat} (h : LkTo w D E f k) (hk : k < 10) (hne : D ≠ E) :
    LkTo ((((w.setCell ⟨D, k * 3, none⟩ (.int .i64 (getP f k).i)).setCell ⟨D, k * 3 + 1, none⟩ (.int .i64 (getP f k).g)).setCell ⟨D, k * 3 + 2, none⟩ (.string (getP f k).t)).setCell ⟨E, k, none⟩ (.int .i64 (getP f k).e)) D E f (k + 1) := by
  obtain ⟨_, a0⟩ := h.h0 k hk
  obtain ⟨_, a1⟩ := h.h1 k hk
  obtain ⟨_, a2⟩ := h.h2 k hk
  obtain ⟨_, a3⟩ := h.he k hk
  have hn : E ≠ D := fun e => hne e.symm
  refine ⟨fun i h1 h2 => ?_, fun i h1 h2 => ?_, fun i h1 h2 => ?_, fun i h1 h2 => ?_, fun i hi => (((h.h0 i hi).set _ _ _).set _ _ _).set _ _ _ |>.set _ _ _, fun i hi => (((h.h1 i hi).set _ _ _).set _ _ _).set _ _ _ |>.set _ _ _, fun i hi => (((h.h2 i hi).set _ _ _).set _ _ _).set _ _ _ |>.set _ _ _, fun i hi => (((h.he i hi).set _ _ _).set _ _ _).set _ _ _ |>.set _ _ _⟩
  · by_cases e : i = k
    · subst e
      exact (((a0.same _).other (fun _ e => by omega) _).other (fun _ e => by omega) _).other (fun e _ => hn e) _
    · exact (h.d0 i h1 (by omega)).sets (fun _ => by omega) (fun e => absurd e hne)
  · by_cases e : i = k
    · subst e
      exact (((a1.other (fun _ e => by omega) _).same _).other (fun _ e => by omega) _).other (fun e _ => hn e) _
    · exact (h.d1 i h1 (by omega)).sets (fun _ => by omega) (fun e => absurd e hne)
  · by_cases e : i = k
    · subst e
      exact (((a2.other (fun _ e => by omega) _).other (fun _ e => by omega) _).same _).other (fun e _ => hn e) _
    · exact (h.d2 i h1 (by omega)).sets (fun _ => by omega) (fun e => absurd e hne)
  · by_cases e : i = k
    · subst e
      exact (((a3.other (fun e _ => hne e) _).other (fun e _ => hne e) _).other (fun e _ => hne e) _).same _
    · exact (h.e i h1 (by omega)).sets (fun e => absurd e hn) (fun _ => by omega)

theorem look_new (w : World) (f : DocF) : LkTo ((w.alloc (.cells z30 47)).alloc (.cells z10 33)) w.heap.size (w.heap.size + 1) f 1 := by
  have ad : ∀ {o v}, z30[o]? = some v → Has ((w.alloc (.cells z30 47)).alloc (.cells z10 33)) w.heap.size o := fun h => ((At.new w _ _ h).alloc _).has
  have ae : ∀ {o v}, z10[o]? = some v → Has ((w.alloc (.cells z30 47)).alloc (.cells z10 33)) (w.heap.size + 1) o := fun h => by
    have := (At.new (w.alloc (.cells z30 47)) z10 33 h).has
    simp only [World.size_alloc] at this
    exact this
  refine ⟨fun i h1 h2 => by omega, fun i h1 h2 => by omega, fun i h1 h2 => by omega, fun i h1 h2 => by omega, fun i hi => ?_, fun i hi => ?_, fun i hi => ?_, fun i hi => ?_⟩
  all_goals
    have : i = 0 ∨ i = 1 ∨ i = 2 ∨ i = 3 ∨ i = 4 ∨ i = 5 ∨ i = 6 ∨ i = 7 ∨ i = 8 ∨ i = 9 := by omega
    rcases this with rfl | rfl | rfl | rfl | rfl | rfl | rfl | rfl | rfl | rfl <;> first | exact ad rfl | exact ae rfl

/-- How many of 1 .. k-1 are there. -/
def nTo (f : DocF) (k : Nat) : Nat := (nine.take (k - 1)).countP fun i => (f i).isSome
theorem nTo_step {f : DocF} {k : Nat} (h1 : 1 ≤ k) (h2 : k < 10) : nTo f (k + 1) = nTo f k + (if (getP f k).e = 0 then 1 else 0) := by
  have h : (nine.take k).countP (fun i => (f i).isSome) = (nine.take (k - 1)).countP (fun i => (f i).isSome) + (if (f (k : Int)).isSome then 1 else 0) := by
    have : k = 1 ∨ k = 2 ∨ k = 3 ∨ k = 4 ∨ k = 5 ∨ k = 6 ∨ k = 7 ∨ k = 8 ∨ k = 9 := by omega
    rcases this with rfl | rfl | rfl | rfl | rfl | rfl | rfl | rfl | rfl <;> simp [nine, List.countP_cons] <;> omega
  unfold nTo
  rw [Nat.add_sub_cancel, h]
  rcases getP_good (f := f) (i := (k : Int)) (by omega) (by omega) with ⟨e1, e2⟩ | ⟨d, e1, e2⟩
  · rw [e1, e2]; simp [noGot]
  · rw [e1, e2]; simp
theorem nTo_ten (f : DocF) : nTo f 10 = nDocs f := rfl
theorem nTo_le (f : DocF) (k : Nat) : nTo f k ≤ 9 := by
  have h1 : nTo f k ≤ (nine.take (k - 1)).length := List.countP_le_length
  have h2 : (nine.take (k - 1)).length ≤ nine.length := by simp; omega
  have : nine.length = 9 := rfl
  omega

theorem look_any {w : World} {F : Nat → Prop} {bS : Nat} {f : DocF} {r : Int → Nat} (h : SR w F bS f r) :
    Calls Try.prog 16 #[.pointer (some ⟨bS, 0, none⟩)] w fun e w' => ∃ D E, e = .returned (.tuple #[.slice (some ⟨D, 0, none⟩) 10 10, .slice (some ⟨E, 0, none⟩) 10 10, .int .i64 (nDocs f : Int)]) ∧ LkAt w' D E f ∧ w.heap.size ≤ D ∧ w.heap.size ≤ E ∧ Fr (fun _ => False) w w' := by
  have H := hid h
  have m1 := mk30
  have m2 := mk10
  have HN := hid (look_new w f)
  have HF : Hid (Fr (fun _ => False) w ((w.alloc (.cells z30 47)).alloc (.cells z10 33))) := ((Fr.refl _ _).alloc _).alloc _
  clear h
  go_enter Try.func16, Try.ntmps16
  go_wp2_with fail
  generalize (w.alloc (.cells z30 47)).alloc (.cells z10 33) = w1 at *
  have hne : w.heap.size ≠ w.heap.size + 1 := by omega
  have HD : Hid (w.heap.size ≤ w.heap.size) := Nat.le_refl _
  have HE : Hid (w.heap.size ≤ w.heap.size + 1) := Nat.le_succ _
  generalize hE : w.heap.size + 1 = E at *
  generalize hD : w.heap.size = D at hne HN HD ⊢
  go_loopw [7, 8] (fun n i wr => ∃ k : Nat, 1 ≤ k ∧ k ≤ 10 ∧ i = .int .i64 k ∧ n = .int .i64 (nTo f k : Nat) ∧ LkTo wr D E f k ∧ Fr (fun _ => False) w wr) (fun _ i _ => 10 - (intOf i).toNat)
  case atStart => exact ⟨1, by omega, by omega, rfl, rfl, HN.out, HF.out⟩
  case round =>
    clear HN HF
    obtain ⟨k, hk1, hk2, rfl, rfl, lk, fr⟩ := hrel
    have LK := hid lk
    have FR := hid fr
    clear lk fr
    have hk0 : (0 : Int) ≤ (k : Int) := by omega
    by_cases hlt : k < 10
    · have hltI : (k : Int) ≤ 9 := by omega
      have hltI2 : (k : Int) < 10 := by omega
      have hn9 : (nTo f k : Int) ≤ 9 := by have := nTo_le f k; omega
      have HS := hid (nTo_step (f := f) hk1 hlt)
      go_wp2_with fail
      refine (get_any (H.out.frw FR.out (fun _ _ h => h)) (k : Int)).mono ?_
      rintro e w2 ⟨rfl, f2⟩
      have LK2 := hid (LK.out.fr f2 (fun h => h) (fun h => h))
      have FR2 := hid (FR.out.trans f2)
      obtain ⟨_, a0⟩ := LK2.out.h0 k hlt
      obtain ⟨_, a1⟩ := LK2.out.h1 k hlt
      obtain ⟨_, a2⟩ := LK2.out.h2 k hlt
      obtain ⟨_, a3⟩ := LK2.out.he k hlt
      have c0 := a0.c
      have c1 := a1.c
      have c2 := a2.c
      have c3 := a3.c
      have x0 := a0.f
      have x1 := a1.f
      have x2 := a2.f
      have x3 := a3.f
      have LK3 := hid (LK2.out.step hlt hne)
      clear a0 a1 a2 a3 f2 LK FR
      simp only [docV]
      by_cases he : (getP f k).e = 0
      · have heb : ((getP f k).e == 0) = true := by simp [he]
        rw [if_pos he] at HS
        generalize getP f k = q at *
        clear he
        go_wp2_with fail
        refine ⟨⟨k + 1, by omega, by omega, by go_num, by rw [HS.out]; rfl, LK3.out, ?_⟩, by simp [intOf]; omega⟩
        exact (((FR2.out.setN (by have := HD.out; omega) _ _).setN (by have := HD.out; omega) _ _).setN (by have := HD.out; omega) _ _).setN (by have := HE.out; omega) _ _
      · have heb : ((getP f k).e == 0) = false := by simp [he]
        rw [if_neg he] at HS
        generalize getP f k = q at *
        clear he
        go_wp2_with fail
        refine ⟨⟨k + 1, by omega, by omega, by go_num, by rw [HS.out]; rfl, LK3.out, ?_⟩, by simp [intOf]; omega⟩
        exact (((FR2.out.setN (by have := HD.out; omega) _ _).setN (by have := HD.out; omega) _ _).setN (by have := HD.out; omega) _ _).setN (by have := HE.out; omega) _ _
    · have hltI : ¬ (k : Int) ≤ 9 := by omega
      obtain rfl : k = 10 := by omega
      go_wp2_with fail
      go_ret3
      rw [nTo_ten]
      have lk := LK.out
      exact ⟨D, E, rfl, ⟨lk.d0, lk.d1, lk.d2, lk.e⟩, by omega, by have := HE.out; omega, FR.out⟩

end Go.Proofs.Qxb6500451a
