/- Into, Words, holds: the model's words of a text. -/
import Derived.Test.Qxb6500450aGreatPCut
import Derived.Test.Qxb6500450aGreatMDrop
import Derived.Test.Qxb6500450aGreatMPut
import Derived.Test.Qxb6500450aGreatMDel
namespace Go.Proofs.Qxb6500450aGreat
open Go Go.RowKit
set_option maxRecDepth 100000
set_option maxHeartbeats 1600000
set_option linter.unusedSimpArgs false
set_option linter.unusedVariables false

theorem into_at (s : ByteArray) : ∀ (l : List ByteArray) (k : Nat), k ≤ l.length → (∀ j, j < k → ltS (l.getD j ⟨#[]⟩) s) → (k = l.length ∨ ¬ ltS (l.getD k ⟨#[]⟩) s) →
    into l s = if k < l.length ∧ l.getD k ⟨#[]⟩ = s then l else l.take k ++ s :: l.drop k
  | [], k, hk, _, _ => by
    have : k = 0 := by simpa using hk
    subst this
    simp [into]
  | a :: l, 0, _, _, h => by
    rcases h with h | h
    · simp at h
    · have h' : ¬ ltS a s := by simpa using h
      simp only [into, if_neg h']
      by_cases e : a = s
      · simp [e]
      · simp [e]
  | a :: l, k + 1, hk, h1, h2 => by
    have ha : ltS a s := by have := h1 0 (by omega); simpa using this
    have ih := into_at s l k (by simpa using hk) (fun j hj => by have := h1 (j + 1) (by omega); simpa using this) (by
      rcases h2 with h2 | h2
      · left; simpa using h2
      · right; simpa using h2)
    simp only [into, if_pos ha, ih]
    by_cases e : k < l.length ∧ l.getD k ⟨#[]⟩ = s
    · rw [if_pos e, if_pos (by simpa using e)]
    · rw [if_neg e, if_neg (by simpa using e)]
      rfl
theorem into_len (s : ByteArray) : ∀ l : List ByteArray, (into l s).length ≤ l.length + 1
  | [] => by simp [into]
  | a :: l => by
    unfold into
    split
    · have := into_len s l; simp; omega
    · split <;> simp
theorem into_ne (s : ByteArray) (l : List ByteArray) : into l s ≠ [] := by
  intro e
  have := (into_mem s s l).2 (.inl rfl)
  rw [e] at this
  simp at this
theorem foldI_len : ∀ (r l : List ByteArray), (r.foldl into l).length ≤ l.length + r.length
  | [], l => by simp
  | x :: r, l => by
    have := foldI_len r (into l x)
    have := into_len x l
    simp at *; omega

theorem lss_true {x y : ByteArray} (h : ltS x y) : Op.bytesLess x.toList y.toList = true := h
theorem lss_false {x y : ByteArray} (h : ¬ ltS x y) : Op.bytesLess x.toList y.toList = false := by
  unfold ltS at h; simpa using h
theorem beqS_true {x y : ByteArray} (h : x = y) : (x.toList == y.toList) = true := by subst h; simp
theorem beqS_false {x y : ByteArray} (h : ¬ x = y) : (x.toList == y.toList) = false := beq_eq_false_iff_ne.2 fun c => h (toList_inj c)

theorem into_any {w : World} {base : Nat} {v : Value} {l : List ByteArray} (h : OwnS w base v l) (hb : base ≤ w.heap.size) (hl : l.length ≤ 900) (s : ByteArray) :
    Calls Tryz.prog 95 #[v, .string s] w fun e w' => ∃ v', e = .returned v' ∧ OwnS w' base v' (into l s) ∧ Fr (fun _ => False) w w' := by
  have H := hid h
  have HB := hid hb
  obtain ⟨va, vc, hv⟩ := h.form
  subst hv
  have hlI : (l.length : Int) ≤ 900 := by omega
  clear h hb
  go_enter Tryz.func95, Tryz.ntmps95
  go_wp2_with fail
  go_loop [5] (fun a => ∃ k : Nat, k ≤ l.length ∧ a = .int .i64 k ∧ ∀ j, j < k → ltS (l.getD j ⟨#[]⟩) s) (fun a => l.length - (intOf a).toNat)
  case atStart => exact ⟨0, by omega, rfl, fun j hj => absurd hj (by omega)⟩
  case round =>
    obtain ⟨k, hk, rfl, hlow⟩ := hrel
    have HLW := hid hlow
    have hk0 : (0 : Int) ≤ (k : Int) := by omega
    have hkI : (k : Int) ≤ (l.length : Int) := by omega
    clear hlow
    have HK := hid hk
    by_cases hlt : k < l.length
    · have hltI : (k : Int) < (l.length : Int) := by omega
      rcases H.out.empty with ⟨_, hn⟩ | ⟨gv, cv, hv, hgb, hgl⟩
      · rw [hn] at hlt; simp at hlt
      cases hv
      have cw := (H.out.cell rfl hlt).c
      by_cases hls : ltS (l.getD k ⟨#[]⟩) s
      · have hbl := lss_true hls
        have HL1 : Hid (∀ j, j < k + 1 → ltS (l.getD j ⟨#[]⟩) s) := fun j hj => by
          by_cases e : j = k
          · rw [e]; exact hls
          · exact HLW.out j (by omega)
        generalize l.getD k ⟨#[]⟩ = x at *
        clear hls
        go_wp2_with fail
        exact ⟨⟨k + 1, by omega, by go_num, HL1.out⟩, by simp [intOf]; omega⟩
      · have hbl := lss_false hls
        have HI := hid (into_at s l k hk HLW.out (.inr hls))
        by_cases heq : l.getD k ⟨#[]⟩ = s
        · rw [heq] at cw hbl
          have HE : Hid (into l s = l) := by have := HI.out; rw [if_pos ⟨hlt, heq⟩] at this; exact this
          have hbe := beqS_true (x := s) rfl
          clear hls heq HI
          go_wp2_with fail
          go_ret
          rw [HE.out]
          exact ⟨_, rfl, H.out, Fr.refl _ _⟩
        · have hbe := beqS_false heq
          have HE : Hid (into l s = l.take k ++ s :: l.drop k) := by have := HI.out; rw [if_neg (fun c => heq c.2)] at this; exact this
          generalize l.getD k ⟨#[]⟩ = x at *
          clear hls heq HI
          have HAL : Hid (l = l.take k ++ l.drop k) := (List.take_append_drop k l).symm
          have hXl : (l.take k).length = k := by rw [List.length_take]; omega
          have hYl : (l.drop k).length = l.length - k := List.length_drop
          generalize l.take k = X at *
          generalize l.drop k = Y at *
          obtain ⟨w2, e2, o2, f2⟩ := make_strs w (l.length + 1) (by omega)
          rw [show ((l.length + 1 : Nat) : Int) = (l.length : Int) + 1 from rfl] at e2
          obtain ⟨p, hp⟩ : ∃ p, p = w.heap.size := ⟨_, rfl⟩
          rw [← hp] at e2 o2
          have HP := hid hp
          have O2 := hid o2
          have F2 := hid f2
          have HXL := hid hXl
          have HYL := hid hYl
          have HLE : Hid (X.length + Y.length = l.length) := by unfold Hid; omega
          clear hp o2 f2 hXl hYl
          go_wp2_with (first
            | (refine wp_cutHS rfl rfl (H.out.fr F2.out (fun _ _ h => h)) HAL.out rfl rfl (by rw [HXL.out]) ?_; intro xa ca pa na)
            | (at_builtin; refine wp_appT rfl rfl O2.out rfl rfl pa rfl rfl (by have := HLE.out; omega) (q := X.length) (by simp) ?_; intro w4 o4 f4)
            | (at_builtin; refine wp_appT rfl rfl (o4.fr ((Fr.refl (fun _ => False) w4).alloc _) (fun _ _ h => h)) rfl rfl (PartS.one w4 s _ 1) rfl rfl (by have := HLE.out; simp; omega) (q := X.length + 1) rfl ?_; intro w5 o5 f5)
            | (refine wp_cutLS rfl rfl ((((H.out.fr F2.out (fun _ _ h => h)).fr f4 (fun k hk e => by have := (H.out.lt hk).2; have := HP.out; omega)).fr ((Fr.refl (fun _ => False) w4).alloc (.cells #[.string s] 9)) (fun _ _ h => h)).fr f5 (fun k hk e => by have := (H.out.lt hk).2; have := HP.out; omega)) HAL.out rfl rfl (by rw [HXL.out]) ?_; intro xb cb pb nb)
            | (at_builtin; refine wp_appT rfl rfl o5 (by simp) rfl pb rfl rfl (by have := HLE.out; omega) (q := X.length + 1 + Y.length) rfl ?_; intro w6 o6 f6)
            | go_in)
          go_ret
          rw [HE.out]
          refine ⟨_, rfl, ?_, ?_⟩
          · have := o6.base (base' := base) (by have := HP.out; have := HB.out; omega)
            simpa using this
          · have hpp := HP.out
            exact (((F2.out.then f4 (fun i hi e => by omega)).alloc _).then f5 (fun i hi e => by omega)).then f6 (fun i hi e => by omega)
    · have hltI : ¬ (k : Int) < (l.length : Int) := by omega
      have HE : Hid (into l s = l.take k ++ s :: l.drop k) := by
        have := into_at s l k hk HLW.out (.inl (by omega))
        rw [if_neg (fun c => hlt c.1)] at this
        exact this
      have HAL : Hid (l = l.take k ++ l.drop k) := (List.take_append_drop k l).symm
      have hXl : (l.take k).length = k := by rw [List.length_take]; omega
      have hYl : (l.drop k).length = l.length - k := List.length_drop
      generalize l.take k = X at *
      generalize l.drop k = Y at *
      obtain ⟨w2, e2, o2, f2⟩ := make_strs w (l.length + 1) (by omega)
      rw [show ((l.length + 1 : Nat) : Int) = (l.length : Int) + 1 from rfl] at e2
      obtain ⟨p, hp⟩ : ∃ p, p = w.heap.size := ⟨_, rfl⟩
      rw [← hp] at e2 o2
      have HP := hid hp
      have O2 := hid o2
      have F2 := hid f2
      have HXL := hid hXl
      have HYL := hid hYl
      have HLE : Hid (X.length + Y.length = l.length) := by unfold Hid; omega
      clear hp o2 f2 hXl hYl
      go_wp2_with (first
        | (refine wp_cutHS rfl rfl (H.out.fr F2.out (fun _ _ h => h)) HAL.out rfl rfl (by rw [HXL.out]) ?_; intro xa ca pa na)
        | (at_builtin; refine wp_appT rfl rfl O2.out rfl rfl pa rfl rfl (by have := HLE.out; omega) (q := X.length) (by simp) ?_; intro w4 o4 f4)
        | (at_builtin; refine wp_appT rfl rfl (o4.fr ((Fr.refl (fun _ => False) w4).alloc _) (fun _ _ h => h)) rfl rfl (PartS.one w4 s _ 1) rfl rfl (by have := HLE.out; simp; omega) (q := X.length + 1) rfl ?_; intro w5 o5 f5)
        | (refine wp_cutLS rfl rfl ((((H.out.fr F2.out (fun _ _ h => h)).fr f4 (fun k hk e => by have := (H.out.lt hk).2; have := HP.out; omega)).fr ((Fr.refl (fun _ => False) w4).alloc (.cells #[.string s] 9)) (fun _ _ h => h)).fr f5 (fun k hk e => by have := (H.out.lt hk).2; have := HP.out; omega)) HAL.out rfl rfl (by rw [HXL.out]) ?_; intro xb cb pb nb)
        | (at_builtin; refine wp_appT rfl rfl o5 (by simp) rfl pb rfl rfl (by have := HLE.out; omega) (q := X.length + 1 + Y.length) rfl ?_; intro w6 o6 f6)
        | go_in)
      go_ret
      rw [HE.out]
      refine ⟨_, rfl, ?_, ?_⟩
      · have := o6.base (base' := base) (by have := HP.out; have := HB.out; omega)
        simpa using this
      · have hpp := HP.out
        exact (((F2.out.then f4 (fun i hi e => by omega)).alloc _).then f5 (fun i hi e => by omega)).then f6 (fun i hi e => by omega)

/-- The words of a text, each once, ascending. -/
def wordsT (t : ByteArray) : List ByteArray := (runs t).foldl into []
theorem wordsT_mem (t y : ByteArray) : y ∈ wordsT t ↔ y ∈ runs t := by unfold wordsT; rw [foldI_mem]; simp
theorem wordsT_len (t : ByteArray) : (wordsT t).length ≤ t.size + 1 := by
  have := foldI_len (runs t) []
  have := runs_len t
  unfold wordsT
  simp at *; omega

theorem words_any {t : ByteArray} (ht : t.size ≤ 800) (w : World) :
    Calls Tryz.prog 94 #[.string t] w fun e w' => ∃ v, e = .returned v ∧ OwnS w' w.heap.size v (wordsT t) ∧ Fr (fun _ => False) w w' := by
  go_enter Tryz.func94, Tryz.ntmps94
  go_wp2_with fail
  go_loopw [3, 4, 5] (fun v a b wr => ∃ (lo i : Nat) (l : List ByteArray), lo ≤ i ∧ i ≤ t.size + 1 ∧ a = .int .i64 lo ∧ b = .int .i64 i ∧ OwnS wr w.heap.size v l ∧ Fr (fun _ => False) w wr ∧ (rn t (t.size + 1 - i) lo i).foldl into l = wordsT t ∧ l.length ≤ i) (fun _ _ b _ => t.size + 1 - (intOf b).toNat)
  case atStart => exact ⟨0, 0, [], by omega, by omega, rfl, rfl, OwnS.nil _ _, Fr.refl _ _, rfl, by simp⟩
  case round =>
    obtain ⟨lo, i, l, hli, his, rfl, rfl, ow, fr, hfo, hll⟩ := hrel
    have OW := hid ow
    have FR := hid fr
    have HFO := hid hfo
    have hi0 : (0 : Int) ≤ (i : Int) := by omega
    have hlo0 : (0 : Int) ≤ (lo : Int) := by omega
    have hloi : (lo : Int) ≤ (i : Int) := by omega
    clear ow fr hfo
    generalize u3 = v at *
    by_cases hle : i ≤ t.size
    · have hleI : (i : Int) ≤ (t.size : Int) := by omega
      have hit : (i : Int) ≤ 1000 := by omega
      have e1 : t.size + 1 - i = (t.size - i) + 1 := by omega
      have e2 : t.size + 1 - (i + 1) = t.size - i := by omega
      rw [e1] at HFO
      by_cases hnb : nbk t i = true
      · have HN : Hid ((rn t (t.size + 1 - (i + 1)) lo (i + 1)).foldl into l = wordsT t) := by
          have := HFO.out
          unfold rn at this
          rw [if_pos hnb] at this
          rw [e2]
          exact this
        have hlt : i < t.size := by
          unfold nbk at hnb
          split at hnb
          · assumption
          · cases hnb
        have hltI : (i : Int) < (t.size : Int) := by omega
        have hb : ((t[i].toNat : Int) != 32) = true := by
          unfold nbk at hnb
          rw [dif_pos hlt] at hnb
          simp at hnb ⊢
          omega
        clear hnb HFO e1 e2
        go_wp2_with fail
        exact ⟨⟨lo, i + 1, l, by omega, by omega, rfl, by go_num, OW.out, FR.out, HN.out, by omega⟩, by simp [intOf]; omega⟩
      · have HN : Hid (((if lo < i then [t.extract lo i] else []) ++ rn t (t.size + 1 - (i + 1)) (i + 1) (i + 1)).foldl into l = wordsT t) := by
          have := HFO.out
          unfold rn at this
          rw [if_neg hnb] at this
          rw [e2]
          exact this
        have hcase : (i < t.size ∧ ∃ h : i < t.size, t[i].toNat = 32) ∨ ¬ i < t.size := by
          by_cases h : i < t.size
          · left
            refine ⟨h, h, ?_⟩
            unfold nbk at hnb
            rw [dif_pos h] at hnb
            simpa using hnb
          · exact .inr h
        clear hnb HFO e1 e2
        have hsl : ∀ W, (Instr.slice 9 (.string t) (some (.int .i64 (lo : Int))) (some (.int .i64 (i : Int))) none).run Tryz.prog W = .ok (.string (t.extract lo i)) W := fun W => by
          have := run_slice_string (P := Tryz.prog) W 9 t .i64 .i64 (lo : Int) (i : Int) (by kernel_rfl) hlo0 hloi hleI
          simpa using this
        by_cases hll2 : lo < i
        · have hlI : (lo : Int) < (i : Int) := by omega
          have HN2 : Hid ((rn t (t.size + 1 - (i + 1)) (i + 1) (i + 1)).foldl into (into l (t.extract lo i)) = wordsT t) := by
            have := HN.out
            rw [if_pos hll2] at this
            exact this
          generalize t.extract lo i = pc at *
          have hil := into_len pc l
          have HIN := hid (into_any OW.out FR.out.size (by omega) pc)
          rcases hcase with ⟨hlt, _, hby⟩ | hlt
          · have hltI : (i : Int) < (t.size : Int) := by omega
            have hb : ((t[i].toNat : Int) != 32) = false := by simp; omega
            clear hby
            go_wp2_with fail
            refine HIN.out.mono ?_
            rintro e w3 ⟨v3, rfl, o3, f3⟩
            have O3 := hid o3
            have F3 := hid (FR.out.trans f3)
            clear o3 f3 HIN
            go_wp2_with fail
            exact ⟨⟨i + 1, i + 1, into l pc, by omega, by omega, by go_num, by go_num, O3.out, F3.out, HN2.out, by omega⟩, by simp [intOf]; omega⟩
          · have hltI : ¬ (i : Int) < (t.size : Int) := by omega
            go_wp2_with fail
            refine HIN.out.mono ?_
            rintro e w3 ⟨v3, rfl, o3, f3⟩
            have O3 := hid o3
            have F3 := hid (FR.out.trans f3)
            clear o3 f3 HIN
            go_wp2_with fail
            exact ⟨⟨i + 1, i + 1, into l pc, by omega, by omega, by go_num, by go_num, O3.out, F3.out, HN2.out, by omega⟩, by simp [intOf]; omega⟩
        · have hlI : ¬ (lo : Int) < (i : Int) := by omega
          have HN2 : Hid ((rn t (t.size + 1 - (i + 1)) (i + 1) (i + 1)).foldl into l = wordsT t) := by
            have := HN.out
            rw [if_neg hll2] at this
            exact this
          clear hsl HN
          rcases hcase with ⟨hlt, _, hby⟩ | hlt
          · have hltI : (i : Int) < (t.size : Int) := by omega
            have hb : ((t[i].toNat : Int) != 32) = false := by simp; omega
            clear hby
            go_wp2_with fail
            exact ⟨⟨i + 1, i + 1, l, by omega, by omega, by go_num, by go_num, OW.out, FR.out, HN2.out, by omega⟩, by simp [intOf]; omega⟩
          · have hltI : ¬ (i : Int) < (t.size : Int) := by omega
            go_wp2_with fail
            exact ⟨⟨i + 1, i + 1, l, by omega, by omega, by go_num, by go_num, OW.out, FR.out, HN2.out, by omega⟩, by simp [intOf]; omega⟩
    · have hleI : ¬ (i : Int) ≤ (t.size : Int) := by omega
      have HE : Hid (l = wordsT t) := by
        have := HFO.out
        rw [show t.size + 1 - i = 0 from by omega] at this
        exact this
      go_wp2_with fail
      go_ret
      rw [← HE.out]
      exact ⟨_, rfl, OW.out, FR.out⟩

theorem holds_any {t : ByteArray} (ht : t.size ≤ 800) (x : ByteArray) (w : World) :
    Calls Tryz.prog 105 #[.string t, .string x] w fun e w' => e = .returned (.bool (decide (x ∈ runs t))) ∧ Fr (fun _ => False) w w' := by
  have HD : Hid (decide (x ∈ runs t) = decide (x ∈ wordsT t)) := by unfold Hid; rw [decide_eq_decide]; exact (wordsT_mem t x).symm
  rw [HD.out]
  have hlw := wordsT_len t
  have HW := hid (words_any ht w)
  clear HD
  go_enter Tryz.func105, Tryz.ntmps105
  go_wp2_with fail
  refine HW.out.mono ?_
  rintro e w1 ⟨v, rfl, ow, f1⟩
  have OW := hid ow
  have F1 := hid f1
  clear ow f1 HW
  obtain ⟨l, hl⟩ : ∃ l, l = wordsT t := ⟨_, rfl⟩
  rw [← hl] at OW hlw
  have HLT := hid hl
  clear hl
  obtain ⟨va, vc, hv⟩ := OW.out.form
  subst hv
  have hlI : (l.length : Int) ≤ 801 := by omega
  go_wp2_with fail
  go_loop [6] (fun a => ∃ k : Nat, k ≤ l.length ∧ a = .int .i64 k ∧ x ∉ l.take k) (fun a => l.length - (intOf a).toNat)
  case atStart => exact ⟨0, by omega, rfl, by simp⟩
  case round =>
    obtain ⟨k, hk, rfl, hno⟩ := hrel
    have HNO := hid hno
    have hk0 : (0 : Int) ≤ (k : Int) := by omega
    clear hno
    by_cases hlt : k < l.length
    · have hltI : (k : Int) < (l.length : Int) := by omega
      rcases OW.out.empty with ⟨_, hn⟩ | ⟨gv, cv, hv, hgb, hgl⟩
      · rw [hn] at hlt; simp at hlt
      cases hv
      have cw := (OW.out.cell rfl hlt).c
      have HTK := hid (take_succ_getD l k hlt)
      have HM := hid (getD_mem hlt)
      generalize l.getD k ⟨#[]⟩ = y at *
      by_cases heq : y = x
      · have hbe := beqS_true heq
        have HY : Hid (decide (x ∈ l) = true) := by rw [← heq]; unfold Hid; exact decide_eq_true HM.out
        clear heq
        go_wp2_with fail
        go_ret
        rw [← HLT.out, HY.out]
        exact ⟨rfl, F1.out⟩
      · have hbe := beqS_false heq
        have HN2 : Hid (x ∉ l.take (k + 1)) := by
          unfold Hid
          rw [HTK.out, List.mem_append]
          rintro (c | c)
          · exact HNO.out c
          · simp at c; exact heq c.symm
        clear heq
        go_wp2_with fail
        exact ⟨⟨k + 1, by omega, by go_num, HN2.out⟩, by simp [intOf]; omega⟩
    · have hltI : ¬ (k : Int) < (l.length : Int) := by omega
      have HY : Hid (decide (x ∈ l) = false) := by
        have := HNO.out
        rw [List.take_of_length_le (by omega)] at this
        unfold Hid
        exact decide_eq_false this
      go_wp2_with fail
      go_ret
      rw [← HLT.out, HY.out]
      exact ⟨rfl, F1.out⟩

end Go.Proofs.Qxb6500450aGreat
