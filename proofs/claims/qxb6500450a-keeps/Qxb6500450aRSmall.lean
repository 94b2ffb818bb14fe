/- The law's small functions: All, Holders, Known, GroupAt, Among, Tied, Due. -/
import Derived.Test.Qxb6500450aQTwin
namespace Go.Proofs.Qxb6500450a
open Go Go.RowKit
set_option maxRecDepth 100000
set_option maxHeartbeats 1600000
set_option linter.unusedSimpArgs false
set_option linter.unusedVariables false
variable {bS bX : Nat}

theorem findE_ok {op : Int} {a b : ByteArray} (ha : a.size ≤ 12) (hb : b.size ≤ 12) (h1 : 1 ≤ op) (h3 : op ≤ 3) : findE op a b = 0 := by
  unfold findE
  rw [if_neg (by omega), if_neg (by omega)]
theorem findL_ok (f : DocF) {op : Int} {a b : ByteArray} (ha : a.size ≤ 12) (hb : b.size ≤ 12) (h1 : 1 ≤ op) (h3 : op ≤ 3) : findL f op a b = nine.filter (findD f op a b) := by
  unfold findL
  rw [if_pos (findE_ok ha hb h1 h3)]
theorem docsOf_ok (f : DocF) {x : ByteArray} (hx : x.size ≤ 12) : docsOf f x = nine.filter (hwD f x) := by
  unfold docsOf
  rw [if_neg (by omega)]
theorem find_all (f : DocF) {x : ByteArray} (hx : x.size ≤ 12) : findL f 2 x x = docsOf f x := by
  rw [findL_ok f hx hx (by omega) (by omega), docsOf_ok f hx]
  apply List.filter_congr
  intro i _
  simp [findD]

section
variable {w : World} {F : Nat → Prop} {bQ : Nat} {f : DocF} {r : Int → Nat}
theorem all_any (h : QR bX bS w F bQ f r) {x : ByteArray} (hx : x.size ≤ 12) :
    Calls Try.prog 60 #[.pointer (some ⟨bQ, 0, none⟩), .string x] w fun e w' => ∃ v, e = .returned v ∧ OwnI w' w.heap.size v (docsOf f x) ∧ Fr (fun _ => False) w w' := by
  have hf := find_any h 2 x x
  rw [find_all f hx] at hf
  have HF := hid hf
  clear hf h hx
  go_enter Try.func60, Try.ntmps60
  go_wp2_with fail
  refine HF.out.mono ?_
  rintro e w1 ⟨v, rfl, ow, _, f1⟩
  have OW := hid ow
  have F1 := hid f1
  clear ow f1 HF
  go_wp2_with fail
  go_ret
  exact ⟨_, rfl, OW.out, F1.out⟩

theorem holdersB_any (h : XR bS w F bX f r) (x : ByteArray) :
    Calls Try.prog 61 #[bwV bX, .string x] w fun e w' => ∃ v, e = .returned v ∧ OwnI w' w.heap.size v (docsOf f x) ∧ Fr (fun _ => False) w w' := by
  have FA := hid ((Fr.refl (fun _ => False) w).alloc (.cells #[.pointer (some ⟨bX, 0, none⟩)] 27))
  have H1 := hid (idocs_any (h.frw FA.out (fun _ _ h => h)) x)
  clear h
  unfold bwV
  go_enter Try.func61, Try.ntmps61
  go_wp2_with fail
  refine H1.out.mono ?_
  rintro e w1 ⟨v, rfl, ow, _, f1⟩
  have OW := hid ow
  have F1 := hid (FA.out.trans f1)
  have HZ : Hid (w.heap.size ≤ (w.alloc (.cells #[.pointer (some ⟨bX, 0, none⟩)] 27)).heap.size) := FA.out.size
  clear ow f1
  go_wp2_with fail
  go_ret
  exact ⟨_, rfl, OW.out.mono HZ.out, F1.out⟩

theorem known_any (h : XR bS w F bX f r) :
    Calls Try.prog 64 #[bwV bX] w fun e w' => ∃ v, e = .returned v ∧ OwnS w' w.heap.size v (wordsOf f) ∧ Fr (fun _ => False) w w' := by
  have FA := hid ((Fr.refl (fun _ => False) w).alloc (.cells #[.pointer (some ⟨bX, 0, none⟩)] 27))
  have H1 := hid (iwords_any (h.frw FA.out (fun _ _ h => h)))
  clear h
  unfold bwV
  go_enter Try.func64, Try.ntmps64
  go_wp2_with fail
  refine H1.out.mono ?_
  rintro e w1 ⟨v, rfl, ow, _, f1⟩
  have OW := hid ow
  have F1 := hid (FA.out.trans f1)
  have HZ : Hid (w.heap.size ≤ (w.alloc (.cells #[.pointer (some ⟨bX, 0, none⟩)] 27)).heap.size) := FA.out.size
  clear ow f1
  go_wp2_with fail
  go_ret
  exact ⟨_, rfl, OW.out.base HZ.out, F1.out⟩

theorem groupAt_any (h : XR bS w F bX f r) (id : Int) :
    Calls Try.prog 63 #[bwV bX, .int .i64 id] w fun e w' => e = .returned (.int .i64 (getP f id).g) ∧ Fr (fun _ => False) w w' := by
  have FA := hid ((Fr.refl (fun _ => False) w).alloc (.cells #[.pointer (some ⟨bX, 0, none⟩)] 27))
  have H1 := hid (igroup_any (h.frw FA.out (fun _ _ h => h)) id)
  clear h
  unfold bwV
  go_enter Try.func63, Try.ntmps63
  go_wp2_with fail
  refine H1.out.mono ?_
  rintro e w1 ⟨rfl, f1⟩
  have F1 := hid (FA.out.trans f1)
  clear f1
  go_wp2_with fail
  go_ret
  exact ⟨rfl, F1.out⟩
end

theorem beqS_true {x y : ByteArray} (h : x = y) : (x.toList == y.toList) = true := by subst h; simp
theorem beqS_false {x y : ByteArray} (h : ¬ x = y) : (x.toList == y.toList) = false := beq_eq_false_iff_ne.2 fun c => h (toList_inj c)

theorem among_any {w : World} {base : Nat} {v : Value} {l : List ByteArray} (h : OwnS w base v l) (hl : l.length ≤ 1000) (x : ByteArray) :
    Calls Try.prog 65 #[v, .string x] w fun e w' => e = .returned (.bool (decide (x ∈ l))) ∧ w' = w := by
  have OW := hid h
  obtain ⟨va, vc, hv⟩ := h.form
  subst hv
  have hlI : (l.length : Int) ≤ 1000 := by omega
  clear h
  go_enter Try.func65, Try.ntmps65
  go_wp2_with fail
  go_loop [5] (fun a => ∃ k : Nat, k ≤ l.length ∧ a = .int .i64 k ∧ x ∉ l.take k) (fun a => l.length - (intOf a).toNat)
  case atStart => exact ⟨0, by omega, rfl, by simp⟩
  case round =>
    obtain ⟨k, hk, rfl, hno⟩ := hrel
    have HNO := hid hno
    have hk0 : (0 : Int) ≤ (k : Int) := by omega
    clear hno
    by_cases hlt : k < l.length
    · have hltI : (k : Int) < (l.length : Int) := by omega
      rcases OW.out.empty with ⟨_, hn⟩ | ⟨gv, cv, hv, hgb, hgl⟩
      · rw [hn] at hlt; simp at hlt
      cases hv
      have cw := (OW.out.cell rfl hlt).c
      have HTK := hid (take_succ_getD l k hlt)
      have HM := hid (getD_mem hlt)
      generalize l.getD k ⟨#[]⟩ = y at *
      by_cases heq : y = x
      · have hbe := beqS_true heq
        have HY : Hid (decide (x ∈ l) = true) := by rw [← heq]; unfold Hid; exact decide_eq_true HM.out
        clear heq
        go_wp2_with fail
        go_ret
        rw [HY.out]
        exact ⟨rfl, rfl⟩
      · have hbe := beqS_false heq
        have HN2 : Hid (x ∉ l.take (k + 1)) := by
          unfold Hid
          rw [HTK.out, List.mem_append]
          rintro (c | c)
          · exact HNO.out c
          · simp at c; exact heq c.symm
        clear heq
        go_wp2_with fail
        exact ⟨⟨k + 1, by omega, by go_num, HN2.out⟩, by simp [intOf]; omega⟩
    · have hltI : ¬ (k : Int) < (l.length : Int) := by omega
      have HY : Hid (decide (x ∈ l) = false) := by
        have := HNO.out
        rw [List.take_of_length_le (by omega)] at this
        unfold Hid
        exact decide_eq_false this
      go_wp2_with fail
      go_ret
      rw [HY.out]
      exact ⟨rfl, rfl⟩

theorem tied_any {w : World} {F : Nat → Prop} {bQ : Nat} {f : DocF} {r : Int → Nat} (h : QR bX bS w F bQ f r) {x : ByteArray} (hx : x.size ≤ 12) :
    Calls Try.prog 34 #[bwV bX, .pointer (some ⟨bQ, 0, none⟩), .string x] w fun e w' => e = .returned (.bool true) ∧ Fr (fun _ => False) w w' := by
  have FA := hid ((Fr.refl (fun _ => False) w).alloc (.cells #[.pointer (some ⟨bX, 0, none⟩)] 27))
  have A0 : Hid (At (w.alloc (.cells #[.pointer (some ⟨bX, 0, none⟩)] 27)) w.heap.size 0 (.pointer (some ⟨bX, 0, none⟩))) := At.new w _ _ rfl
  have Q0 := hid (h.frw FA.out (fun _ _ h => h))
  have hdl : (docsOf f x).length ≤ 1000000 := by have := docsOf_le f x; omega
  clear h
  simp only [bwV]
  go_enter Try.func34, Try.ntmps34
  go_upto_region 1 with fail
  generalize w.alloc (.cells #[.pointer (some ⟨bX, 0, none⟩)] 27) = w0 at *
  generalize w.heap.size = pb at *
  go_wp2_with fail
  refine (all_any Q0.out hx).mono ?_
  rintro e w1 ⟨v, rfl, ow, f1⟩
  obtain ⟨a1, cap1, rfl, ia⟩ := ow.ints (docsOf_i64 f x)
  have IA := hid ia
  have F1 := hid (FA.out.trans f1)
  have A1 := hid (A0.out.fr f1 (fun h => h))
  have Q1 := hid (Q0.out.frw f1 (fun _ _ h => h))
  clear ow ia f1
  go_wp2_with fail
  refine (ints_any (l := docsOf f x) cap1 IA.out hdl).mono ?_
  rintro e w2 ⟨rfl, f2⟩
  have F2 := hid (F1.out.trans f2)
  have A2 := hid (A1.out.fr f2 (fun h => h))
  have Q2 := hid (Q1.out.frw f2 (fun _ _ h => h))
  clear f2
  have c0 := A2.out.c
  have HH := holdersB_any Q2.out.xr x
  simp only [bwV] at HH
  have HH := hid HH
  go_wp2_with fail
  refine HH.out.mono ?_
  rintro e w3 ⟨v3, rfl, ow3, f3⟩
  obtain ⟨a3, cap3, rfl, ia3⟩ := ow3.ints (docsOf_i64 f x)
  have IA3 := hid ia3
  have F3 := hid (F2.out.trans f3)
  clear ow3 ia3 f3 c0 HH
  go_wp2_with fail
  refine (ints_any (l := docsOf f x) cap3 IA3.out hdl).mono ?_
  rintro e w4 ⟨rfl, f4⟩
  have F4 := hid (F3.out.trans f4)
  clear f4
  generalize bs (ints (docsOf f x)) = s at *
  go_wp2_with fail
  go_ret
  exact ⟨by simp, F4.out⟩

/-- What the contract's words demand of a question. -/
def dueE (o : Stp) : Int := if o.kind ≠ 6 ∧ (12 < o.s.size ∨ (o.kind = 4 ∧ 12 < o.t.size)) then 1 else if o.kind = 4 ∧ (o.a < 1 ∨ 3 < o.a) then 7 else if o.kind = 6 ∧ (o.a < 0 ∨ 4 < o.a) then 8 else 0
theorem due_do (f : DocF) (o : Stp) (h4 : 4 ≤ o.kind) (h6 : o.kind ≤ 6) : dueE o = doE f o := by
  have : o.kind = 4 ∨ o.kind = 5 ∨ o.kind = 6 := by omega
  rcases this with k | k | k
  · simp [dueE, doE, findE, k]
  · simp [dueE, doE, grpsE, k]
  · simp [dueE, doE, topE, k]

end Go.Proofs.Qxb6500450a
