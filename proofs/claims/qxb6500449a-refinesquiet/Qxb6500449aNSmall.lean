/- The law's small functions: Ground, Low, Listed, TextOf, GroupOf, Listing, Long, Named. -/
import Derived.Test.Qxb6500449aNDo
import Derived.Test.Qxb6500449aNHold
namespace Go.Proofs.Qxb6500449a
open Go Go.RowKit
set_option maxRecDepth 100000
set_option maxHeartbeats 1600000
set_option linter.unusedSimpArgs false
set_option linter.unusedVariables false
variable {bS : Nat}

def bwV (bS : Nat) : Value := .agg #[.pointer (some ⟨bS, 0, none⟩)]
theorem XR.sr {w : World} {F : Nat → Prop} {bX : Nat} {f : DocF} {r : Int → Nat} (h : XR bS w F bX f r) : SR w F bS f r := by
  obtain ⟨bi, bb, q, FS, h⟩ := h
  exact h.st.wide (fun i hi => (h.fs i hi).1)

theorem ground_any (w : World) : Calls Try.prog 11 #[] w fun e w' => ∃ b, e = .returned (bwV b) ∧ w.heap.size ≤ b ∧ SR w' (fun i => w.heap.size ≤ i ∧ i < w'.heap.size) b noD (fun _ => 0) ∧ Fr (fun _ => False) w w' := by
  have FA := hid ((Fr.refl (fun _ => False) w).alloc (.cells #[.pointer none] 27))
  have A0 : Hid (At (w.alloc (.cells #[.pointer none] 27)) w.heap.size 0 (.pointer none)) := At.new w _ _ rfl
  have HZ : Hid ((w.alloc (.cells #[.pointer none] 27)).heap.size = w.heap.size + 1) := by simp [Hid]
  go_enter Try.func11, Try.ntmps11
  go_wp2_with fail
  refine (new_any _).mono ?_
  rintro e w1 ⟨rfl, hr, f1⟩
  rw [HZ.out] at hr ⊢
  have HR := hid hr
  have F1 := hid (FA.out.trans f1)
  have A1 := hid (A0.out.fr f1 (fun h => h))
  clear hr f1
  obtain ⟨b, hb⟩ : ∃ b, b = w.heap.size + 1 + 3 := ⟨_, rfl⟩
  rw [← hb] at HR ⊢
  have HB := hid hb
  clear hb
  obtain ⟨p, hp⟩ : ∃ p, p = w.heap.size := ⟨_, rfl⟩
  rw [← hp] at A1 ⊢
  have HP := hid hp
  clear hp
  have c0 := A1.out.c
  have f0 := A1.out.f
  go_wp2_with fail
  have g : Fr (fun i => i = p) w1 (w1.setCell ⟨p, 0, none⟩ (.pointer (some ⟨b, 0, none⟩))) := (Fr.refl (fun i => i = p) w1).setCell (p := ⟨p, 0, none⟩) (fun _ => rfl) _
  have hsz : (w1.setCell ⟨p, 0, none⟩ (.pointer (some ⟨b, 0, none⟩))).heap.size = w1.heap.size := by simp
  have z0 := (A1.out.same (.pointer (some ⟨b, 0, none⟩))).c
  generalize w1.setCell ⟨p, 0, none⟩ (.pointer (some ⟨b, 0, none⟩)) = W at *
  refine ⟨rfl, _, by simp [results, Try.results11, go_sem, z0]; rfl, b, rfl, by have := HB.out; have := HP.out; omega, ?_, ?_⟩
  · exact ((HR.out.within).frw g (fun i hi e => by have := HB.out; have := HP.out; omega)).wide (fun i hi => ⟨by have := HP.out; omega, by rw [hsz]; exact hi.2⟩)
  · exact F1.out.then g (fun i hi e => by have := HP.out; omega)

theorem low_any {w : World} {F : Nat → Prop} {f : DocF} {r : Int → Nat} (h : SR w F bS f r) (hr : ∀ k, r k < 4611686018427387904) :
    Calls Try.prog 23 #[bwV bS] w fun e w' => e = .returned (.string (bs (showL f r))) ∧ Fr (fun _ => False) w w' := by
  have FA := hid ((Fr.refl (fun _ => False) w).alloc (.cells #[.pointer (some ⟨bS, 0, none⟩)] 27))
  have H1 := hid (show_any (h.frw FA.out (fun _ _ h => h)) hr)
  clear h hr
  unfold bwV
  go_enter Try.func23, Try.ntmps23
  go_wp2_with fail
  refine H1.out.mono ?_
  rintro e w1 ⟨rfl, f1⟩
  have F1 := hid (FA.out.trans f1)
  clear f1
  go_wp2_with fail
  go_ret
  exact ⟨rfl, F1.out⟩

theorem listed_any {w : World} {F : Nat → Prop} {f : DocF} {r : Int → Nat} (h : SR w F bS f r) :
    Calls Try.prog 46 #[bwV bS] w fun e w' => ∃ v, e = .returned v ∧ OwnI w' w.heap.size v (ids f) ∧ (ids f = [] → v = .slice none 0 0) ∧ Fr (fun _ => False) w w' := by
  have FA := hid ((Fr.refl (fun _ => False) w).alloc (.cells #[.pointer (some ⟨bS, 0, none⟩)] 27))
  have H1 := hid (ids_any (h.frw FA.out (fun _ _ h => h)))
  clear h
  unfold bwV
  go_enter Try.func46, Try.ntmps46
  go_wp2_with fail
  refine H1.out.mono ?_
  rintro e w1 ⟨v, rfl, o1, n1, f1⟩
  have F1 := hid (FA.out.trans f1)
  have O1 := hid (o1.mono FA.out.size)
  have N1 := hid n1
  clear f1 o1 n1
  go_wp2_with fail
  go_ret
  exact ⟨_, rfl, O1.out, N1.out, F1.out⟩

theorem textof_any {w : World} {F : Nat → Prop} {f : DocF} {r : Int → Nat} (h : SR w F bS f r) (id : Int) :
    Calls Try.prog 64 #[bwV bS, .int .i64 id] w fun e w' => e = .returned (.string (getP f id).t) ∧ Fr (fun _ => False) w w' := by
  have FA := hid ((Fr.refl (fun _ => False) w).alloc (.cells #[.pointer (some ⟨bS, 0, none⟩)] 27))
  have H1 := hid (get_any (h.frw FA.out (fun _ _ h => h)) id)
  clear h
  unfold bwV
  go_enter Try.func64, Try.ntmps64
  go_wp2_with fail
  refine H1.out.mono ?_
  rintro e w1 ⟨rfl, f1⟩
  have F1 := hid (FA.out.trans f1)
  clear f1
  simp only [docV]
  go_wp2_with fail
  go_ret
  exact ⟨rfl, F1.out.alloc _⟩

theorem groupof_any {w : World} {F : Nat → Prop} {f : DocF} {r : Int → Nat} (h : SR w F bS f r) (id : Int) :
    Calls Try.prog 63 #[bwV bS, .int .i64 id] w fun e w' => e = .returned (.int .i64 (getP f id).g) ∧ Fr (fun _ => False) w w' := by
  have FA := hid ((Fr.refl (fun _ => False) w).alloc (.cells #[.pointer (some ⟨bS, 0, none⟩)] 27))
  have H1 := hid (get_any (h.frw FA.out (fun _ _ h => h)) id)
  clear h
  unfold bwV
  go_enter Try.func63, Try.ntmps63
  go_wp2_with fail
  refine H1.out.mono ?_
  rintro e w1 ⟨rfl, f1⟩
  have F1 := hid (FA.out.trans f1)
  clear f1
  simp only [docV]
  go_wp2_with fail
  go_ret
  exact ⟨rfl, F1.out.alloc _⟩

theorem listing_any {w : World} {base : Nat} {v : Value} {l : List ByteArray} (h : OwnS w base v l) (hl : l.length ≤ 1000) (x : ByteArray) (hx : x.size ≤ 1000) :
    Calls Try.prog 66 #[v, .string x] w fun e w' => e = .returned (.bool (decide (x ∈ l))) ∧ w' = w := by
  have H := hid h
  obtain ⟨va, vc, hv⟩ := h.form
  subst hv
  have hlI : (l.length : Int) ≤ 1000 := by omega
  clear h
  go_enter Try.func66, Try.ntmps66
  go_wp2_with fail
  go_loop [5] (fun a => ∃ k : Nat, k ≤ l.length ∧ a = .int .i64 k ∧ ∀ j, j < k → l.getD j ⟨#[]⟩ ≠ x) (fun a => l.length - (intOf a).toNat)
  case atStart => exact ⟨0, by omega, rfl, fun j h => by omega⟩
  case round =>
    obtain ⟨k, hk, rfl, hno⟩ := hrel
    have HNO := hid hno
    clear hno
    have hk0 : (0 : Int) ≤ (k : Int) := by omega
    by_cases hlt : k < l.length
    · have hltI : (k : Int) < (l.length : Int) := by omega
      rcases H.out.empty with ⟨_, hn⟩ | ⟨gv, cv, hv, hgb, hgl⟩
      · rw [hn] at hlt; simp at hlt
      cases hv
      have cw := (H.out.cell rfl hlt).c
      have HM := hid (getD_mem hlt)
      by_cases he : l.getD k ⟨#[]⟩ = x
      · have HD : Hid (x ∈ l) := by rw [← he]; exact HM.out
        rw [he] at cw
        clear he
        go_wp2_with fail
        go_ret
        exact ⟨by simp [HD.out], rfl⟩
      · have hb := str_ne he
        have HN : Hid (∀ j, j < k + 1 → l.getD j ⟨#[]⟩ ≠ x) := fun j hj => by
          by_cases e : j = k
          · rw [e]; exact he
          · exact HNO.out j (by omega)
        clear he
        generalize l.getD k ⟨#[]⟩ = y at *
        go_wp2_with fail
        exact ⟨⟨k + 1, by omega, by go_num, HN.out⟩, by simp [intOf]; omega⟩
    · have hltI : ¬ (k : Int) < (l.length : Int) := by omega
      have HD : Hid (¬ x ∈ l) := fun c => by
        obtain ⟨j, hj, e⟩ := List.mem_iff_getElem.1 c
        exact HNO.out j (by omega) (by rw [List.getD_eq_getElem?_getD, List.getElem?_eq_getElem hj]; exact e)
      go_wp2_with fail
      go_ret
      exact ⟨by simp [HD.out], rfl⟩

theorem long_any {w : World} {F : Nat → Prop} {bX : Nat} {f : DocF} {r : Int → Nat} (h : XR bS w F bX f r) (x : ByteArray) (hx : 12 < x.size) :
    Calls Try.prog 49 #[.pointer (some ⟨bX, 0, none⟩), .string x] w fun e w' => e = .returned (.bool true) ∧ Fr (fun _ => False) w w' := by
  have hd : docsOf f x = [] := by unfold docsOf; rw [if_pos hx]
  have hfq : frq f x = 0 := by unfold frq; rw [if_pos hx]
  have HT : Hid (∀ g, tal f g x = 0) := fun g => by unfold tal; rw [if_pos hx]
  have HX := hid h
  have HD := hid (idocs_any h x)
  have HFQ := hid hfq
  have HDD := hid hd
  clear h hd hfq hx
  go_enter Try.func49, Try.ntmps49
  go_wp2_with fail
  refine HD.out.mono ?_
  rintro e w1 ⟨v, rfl, o1, n1, f1⟩
  rw [n1 HDD.out]
  have F1 := hid f1
  have X1 := hid (HX.out.frw f1 (fun _ _ h => h))
  clear o1 n1 f1 HX HD
  go_wp2_with fail
  go_loop [6] (fun a => ∃ k : Nat, k ≤ 3 ∧ a = .int .i64 k) (fun a => 3 - (intOf a).toNat)
  case atStart => exact ⟨0, by omega, rfl⟩
  case round =>
    obtain ⟨k, hk, rfl⟩ := hrel
    by_cases hlt : k ≤ 2
    · have hltI : (k : Int) ≤ 2 := by omega
      go_wp2_with fail
      refine (itally_any X1.out (k : Int) x).mono ?_
      rintro e w2 ⟨rfl, hw2⟩
      obtain rfl := hw2.symm
      rw [HT.out]
      go_wp2_with fail
      exact ⟨⟨k + 1, by omega, by go_num⟩, by simp [intOf]; omega⟩
    · have hltI : ¬ (k : Int) ≤ 2 := by omega
      go_wp2_with fail
      refine (ifreq_any X1.out x).mono ?_
      rintro e w2 ⟨rfl, hw2⟩
      obtain rfl := hw2.symm
      rw [HFQ.out]
      go_wp2_with fail
      go_ret
      exact ⟨rfl, F1.out⟩

end Go.Proofs.Qxb6500449a
