/- The index: Show. -/
import Derived.Test.Qxb6500450aGreatIWords
import Derived.Deep.RegionLaw
import Derived.Deep.AppendLies
namespace Go.Proofs.Qxb6500450aGreat
open Go Go.RowKit
set_option maxRecDepth 100000
set_option maxHeartbeats 1600000
set_option linter.unusedSimpArgs false
set_option linter.unusedVariables false
variable {bS : Nat}

def talR (f : DocF) (x : ByteArray) (k : Nat) : List Int := (List.range k).map fun j : Nat => (tlK f ((j : Int), x) : Int)
theorem talR_len (f : DocF) (x : ByteArray) (k : Nat) : (talR f x k).length = k := by simp [talR]
theorem talR_succ (f : DocF) (x : ByteArray) (k : Nat) : talR f x (k + 1) = talR f x k ++ [(tlK f ((k : Int), x) : Int)] := by
  unfold talR; rw [List.range_succ, List.map_append]; rfl
theorem talR_i64 (f : DocF) (x : ByteArray) (k : Nat) : ∀ n ∈ talR f x k, I64 n := by
  intro n hn
  unfold talR at hn
  obtain ⟨j, _, rfl⟩ := List.mem_map.1 hn
  have := tlK_le f ((j : Int), x)
  unfold I64; omega
theorem docsOf_i64 (f : DocF) (x : ByteArray) : ∀ n ∈ docsOf f x, I64 n := by
  intro n hn
  unfold docsOf at hn
  split at hn
  · simp at hn
  · have := nine_mem (List.mem_filter.1 hn).1
    unfold I64; omega
theorem docsOf_le (f : DocF) (x : ByteArray) : (docsOf f x).length ≤ 9 := by
  rw [docsOf_len]
  unfold frq
  split
  · omega
  · exact fq_le _ _
def itemL (f : DocF) (x : ByteArray) : List UInt8 := x.data.toList ++ [61] ++ ints (docsOf f x) ++ [64] ++ ints (talR f x 3) ++ [59]
def showX (f : DocF) (r : Int → Nat) (l : List ByteArray) : List UInt8 := showL f r ++ [35] ++ l.flatMap (itemL f)
def showI (f : DocF) (r : Int → Nat) : List UInt8 := showX f r (wordsOf f)
theorem showX_snoc (f : DocF) (r : Int → Nat) (l : List ByteArray) (x : ByteArray) : showX f r (l ++ [x]) = showX f r l ++ itemL f x := by
  unfold showX; simp
theorem itemL_len (f : DocF) {x : ByteArray} (h : x.size ≤ 12) : (itemL f x).length ≤ 300 := by
  have h1 := ints_len (docsOf f x)
  have h2 := ints_len (talR f x 3)
  rw [talR_len] at h2
  have h3 := docsOf_le f x
  have h4 : x.data.toList.length = x.size := by simp
  unfold itemL
  simp only [List.length_append, List.length_cons, List.length_nil, h4]
  omega
theorem showL_len {f : DocF} (ok : OkF f) (r : Int → Nat) : (showL f r).length ≤ 1000 := by
  have h1 := docsB_len ok (ids f)
  have h2 := ids_len f
  have h3 := ok.few
  have h4 := ints_len (revL r)
  have h5 := ints_len (grpL f)
  have e1 : (revL r).length = 9 := by simp [revL]
  have e2 : (grpL f).length = 3 := by simp [grpL]
  unfold showL
  simp only [List.length_append, List.length_cons, List.length_nil]
  omega
theorem showX_len {f : DocF} (ok : OkF f) (r : Int → Nat) : ∀ l : List ByteArray, (∀ x ∈ l, x.size ≤ 12) → (showX f r l).length ≤ 1001 + 300 * l.length := by
  intro l hl
  have h0 := showL_len ok r
  have : ∀ l : List ByteArray, (∀ x ∈ l, x.size ≤ 12) → (l.flatMap (itemL f)).length ≤ 300 * l.length := by
    intro l
    induction l with
    | nil => intro _; simp
    | cons x l ih =>
      intro h
      have h1 := itemL_len f (h x (by simp))
      have h2 := ih (fun y hy => h y (by simp [hy]))
      rw [List.flatMap_cons, List.length_append, List.length_cons]
      omega
  have h2 := this l hl
  unfold showX
  simp only [List.length_append, List.length_cons, List.length_nil]
  omega
theorem bs_data (x : ByteArray) : bs x.data.toList = x := by apply ByteArray.ext; simp [bs]

theorem step_appI {w : World} {ops : Array Oper} {o : Oper} {a : Act} {K : Act → World → Prop} {Q : Exit → Act → World → Prop} {E : Prop} (hgd : o.guard = none) (s x : Operand)
    (ho : o.op = .call { callee := .builtin .append, args := #[s, x], argTypes := #[59, 59] }) {base : Nat} {v : Value} {l : List Int} (hs : a.eval s = v) (hown : OwnI w base v l)
    {B c : Nat} (hx : a.eval x = .slice (some ⟨B, 0, none⟩) 1 c) {y : Int} (hc : w.cell? ⟨B, 0, none⟩ = some (.int .i64 y)) (hlen : l.length ≤ 1000000) (hbase : base ≤ w.heap.size)
    (h : ∀ g cap w', OwnI w' base (.slice (some ⟨g, 0, none⟩) (l.length + 1) cap) (l ++ [y]) → Fr (fun i => v.ownBlock = some i) w w' → K (a.put o.dst (.slice (some ⟨g, 0, none⟩) (l.length + 1) cap)) w') :
    if Region.wanted o (yielded ops a.tmps) = true then Oper.wp Tryz.prog o a w K Q else E := by
  obtain ⟨i0, hi, hz0, hz1, hz2⟩ := info_parts infoInt
  refine step_append_lies w hgd s x 59 ho base 3 i0 (.int .i64 0) 1 8 uSliceInt hi hz0 hz1 hz2 rfl (by decide) v l.length (l.map iv) hs hown ⟨B, 0, none⟩ 1 c [.int .i64 y] hx rfl ?_ ?_ (by decide) (by unfold maxLen; omega) (by omega) hbase w.heap.size rfl ?_
  · intro j u hj
    cases j with
    | zero =>
      simp at hj
      subst hj
      rw [add_addr]
      exact hc
    | succ j => simp at hj
  · intro u hu
    simp at hu
    subst hu
    rfl
  · intro g cap w' h1 h2 h3 h4
    refine h g cap w' ?_ (Fr.of_grown h2)
    unfold OwnI
    rw [List.length_append, List.map_append]
    exact h1

theorem ishow_any {w : World} {F : Nat → Prop} {bX : Nat} {f : DocF} {r : Int → Nat} (h : XR bS w F bX f r) (hr : ∀ k, r k < 4611686018427387904) :
    Calls Tryz.prog 43 #[.pointer (some ⟨bX, 0, none⟩)] w fun e w' => e = .returned (.string (bs (showI f r))) ∧ Fr (fun _ => False) w w' := by
  have HX := hid h
  have OK := hid h.ok
  obtain ⟨bi, bb, q, FS, h⟩ := h
  have H := hid h
  have c0 := h.x0.c
  have HS := hid (show_any h.st hr)
  have zs : (bs (showL f r)).size ≤ 1000 := by rw [bs_size]; exact showL_len h.st.ok r
  clear h hr
  go_enter Tryz.func43, Tryz.ntmps43
  go_wp2_with fail
  refine HS.out.mono ?_
  rintro e w1 ⟨rfl, f1⟩
  have F1 := hid f1
  clear f1 c0 HS
  go_wp2_with fail
  refine (iwords_any (HX.out.frw F1.out (fun _ _ h => h))).mono ?_
  rintro e w2 ⟨v, rfl, ow, _, f2⟩
  have OW := hid ow
  have F2 := hid (F1.out.trans f2)
  have HL := hid (wordsOf_len OK.out)
  have HSZ : Hid (∀ x ∈ wordsOf f, x.size ≤ 12) := fun x hx => (wordsOf_size OK.out hx).2
  clear ow f2 zs
  obtain ⟨l, hl⟩ : ∃ l, l = wordsOf f := ⟨_, rfl⟩
  rw [← hl] at OW HL HSZ
  have HLS := hid hl
  clear hl
  obtain ⟨va, vc, hv⟩ := OW.out.form
  subst hv
  have hlen : (l.length : Int) ≤ 117 := by have := HL.out; omega
  have e0 : bs (showL f r) ++ ⟨#[35]⟩ = bs (showX f r []) := by
    unfold showX
    rw [show (⟨#[35]⟩ : ByteArray) = bs [35] from rfl, bs_append]
    simp
  rw [e0]
  clear e0
  go_wp2_with fail
  go_loopw [3, 5] (fun s a wr => ∃ k : Nat, k ≤ l.length ∧ a = .int .i64 k ∧ s = .string (bs (showX f r (l.take k))) ∧ Fr (fun _ => False) w2 wr) (fun _ a _ => l.length - (intOf a).toNat)
  case atStart => exact ⟨0, by omega, rfl, by simp, Fr.refl _ _⟩
  case round =>
    obtain ⟨k, hk, rfl, rfl, fr⟩ := hrel
    have FR := hid fr
    have hk0 : (0 : Int) ≤ (k : Int) := by omega
    clear fr
    by_cases hlt : k < l.length
    · have hltI : (k : Int) < (l.length : Int) := by omega
      rcases OW.out.empty with ⟨_, hn⟩ | ⟨gv, cv, hv, hgb, hgl⟩
      · rw [hn] at hlt; simp at hlt
      cases hv
      have CW := hid ((OW.out.cell rfl hlt).fr FR.out (fun h => h))
      have HXR := hid ((HX.out.frw F2.out (fun _ _ h => h)).frw FR.out (fun _ _ h => h))
      have HXC := hid ((H.out.frw F2.out (fun _ _ h => h)).frw FR.out (fun _ _ h => h))
      have hsx := HSZ.out _ (getD_mem hlt)
      have HTK := hid (take_succ_getD l k hlt)
      have hz : (bs (showX f r (l.take k))).size ≤ 40000 := by
        rw [bs_size]
        have h1 := showX_len OK.out r (l.take k) (fun x hx => HSZ.out x (List.mem_of_mem_take hx))
        have h2 : (l.take k).length ≤ 117 := by rw [List.length_take]; omega
        omega
      generalize l.getD k ⟨#[]⟩ = x at *
      have cw := CW.out.c
      have HD := idocs_any HXR.out x
      go_wp2_with fail
      refine HD.mono ?_
      clear HD
      rintro e w3 ⟨dv, rfl, ow3, _, f3⟩
      have OD := hid ow3
      have F3 := hid (FR.out.trans f3)
      have X3 := hid (HXC.out.frw f3 (fun _ _ h => h))
      have C3 := hid (CW.out.fr f3 (fun h => h))
      have HW3 : Hid (w.heap.size ≤ w3.heap.size) := Nat.le_trans F2.out.size F3.out.size
      clear ow3 f3 cw
      go_wp2_with fail
      go_loopw [7, 31] (fun tv b wi => ∃ j : Nat, j ≤ 3 ∧ b = .int .i64 j ∧ OwnI wi w3.heap.size tv (talR f x j) ∧ (j = 0 → tv = .slice none 0 0) ∧ Fr (fun _ => False) w3 wi) (fun _ b _ => 3 - (intOf b).toNat)
      case atStart => exact ⟨0, by omega, rfl, OwnI.nil _ _, fun _ => rfl, Fr.refl _ _⟩
      case round =>
        obtain ⟨j, hj, rfl, owt, hnl, fi⟩ := hrel
        have OT := hid owt
        have FI := hid fi
        have hj0 : (0 : Int) ≤ (j : Int) := by omega
        clear owt hnl fi
        generalize u7 = tv at *
        have XI3 := hid (X3.out.frw FI.out (fun _ _ h => h))
        have CI := hid (C3.out.fr FI.out (fun h => h))
        by_cases hj3 : j < 3
        · have hj3I : (j : Int) < 3 := by omega
          obtain ⟨m, mt⟩ := XI3.out.xi.tal
          have hlk := (mt.fr ((Fr.refl (fun _ => False) wr).drew) (fun h => h)).lookup kKey uBy (zInt wr.drew) ((j : Int), x) false
          rw [cmK_get] at hlk
          have hlk' : (Instr.lookup 78 (.map (some bb)) (.agg #[.int .i64 (j : Int), .string x]) false).run Tryz.prog wr.drew = .ok (.int .i64 (tlK f ((j : Int), x) : Int)) wr.drew := hlk
          clear hlk mt
          have c2 := XI3.out.x2.c
          have cw := CI.out.c
          have HT := hid (talR_succ f x j)
          have hTl : (talR f x j).length ≤ 1000000 := by rw [talR_len]; omega
          generalize htv : (tlK f ((j : Int), x) : Int) = T at *
          have FW : Hid (Fr (fun _ => False) wr (wr.alloc (.cells #[.int .i64 T] 3)).drew) := ((Fr.refl _ _).alloc _).drew
          have lg := CI.out.lt
          have lx := XI3.out.x2.lt
          go_upto_region 11 with fail
          have OTW := hid (OT.out.fr FW.out (fun _ _ h => h))
          have hbs : w3.heap.size ≤ (wr.alloc (.cells #[.int .i64 T] 3)).drew.heap.size := Nat.le_trans FI.out.size FW.out.size
          have HBS := hid hbs
          clear hbs
          go_region_law (refine step_appI rfl (.tmp 34) (.tmp 46) rfl (v := tv) (by simp [Act.eval, Act.put]) OTW.out (B := wr.heap.size) (c := 1) (by simp [Act.eval, Act.put]) (y := T) (At.new wr #[.int .i64 T] _ rfl).drew.c hTl HBS.out ?_; intro tg tc w5 ow5 f5)
          all_goals (have O5 := hid ow5)
          all_goals (have F5 : Hid (Fr (fun _ => False) w3 w5) := (FI.out.trans FW.out).then f5 (fun i hi e => by have := (OT.out.lt e).1; omega))
          all_goals clear ow5 f5
          all_goals go_wp2_with fail
          all_goals exact ⟨⟨j + 1, by omega, by go_num, by rw [HT.out]; have := O5.out; exact this, fun e => absurd e (by omega), F5.out⟩, by simp [intOf]; omega⟩
        · have hj3I : ¬ (j : Int) < 3 := by omega
          have hje : j = 3 := by omega
          subst hje
          obtain ⟨da, dc, hdv, IA⟩ := OD.out.ints (docsOf_i64 f x)
          obtain ⟨ta, tc, htv, IT⟩ := OT.out.ints (talR_i64 f x 3)
          subst hdv htv
          have IA := hid (IA.fr FI.out (fun _ _ _ h => h))
          have IT := hid IT
          have hdl : (docsOf f x).length ≤ 1000000 := by have := docsOf_le f x; omega
          have HI1 := hid (ints_any dc IA.out hdl)
          clear hdl
          go_wp2_with fail
          refine HI1.out.mono ?_
          rintro e w6 ⟨rfl, f6⟩
          have F6 := hid (FI.out.trans f6)
          have HI2 := hid (ints_any tc (IT.out.fr f6 (fun _ _ _ h => h)) (by rw [talR_len]; omega))
          clear f6 HI1
          go_wp2_with fail
          refine HI2.out.mono ?_
          rintro e w7 ⟨rfl, f7⟩
          have F7 := hid (F6.out.trans f7)
          clear f7 HI2
          have C7 := hid (C3.out.fr F7.out (fun h => h))
          have cw := C7.out.c
          have z1 : (bs (ints (docsOf f x))).size ≤ 300 := by
            rw [bs_size]
            have h1 := ints_len (docsOf f x)
            have h2 := docsOf_le f x
            omega
          have z2 : (bs (ints (talR f x 3))).size ≤ 300 := by
            rw [bs_size]
            have h1 := ints_len (talR f x 3)
            rw [talR_len] at h1
            omega
          have HEQ : Hid (((((((bs (showX f r (l.take k)) ++ x) ++ ⟨#[61]⟩) ++ bs (ints (docsOf f x))) ++ ⟨#[64]⟩) ++ bs (ints (talR f x 3))) ++ ⟨#[59]⟩) = bs (showX f r (l.take (k + 1)))) := by
            unfold Hid
            rw [HTK.out, showX_snoc]
            unfold itemL
            rw [← bs_append, ← bs_append, ← bs_append, ← bs_append, ← bs_append, ← bs_append, bs_data]
            simp only [ByteArray.append_assoc]
            rfl
          generalize bs (ints (docsOf f x)) = s1 at *
          generalize bs (ints (talR f x 3)) = s2 at *
          generalize bs (showX f r (l.take k)) = s0 at *
          go_wp2_with fail
          exact ⟨⟨k + 1, by omega, by go_num, by rw [← HEQ.out], F3.out.trans F7.out⟩, by simp [intOf]; omega⟩
    · have hgeI : ¬ (k : Int) < (l.length : Int) := by omega
      have HE : Hid (l.take k = l) := List.take_of_length_le (by omega)
      rw [HE.out]
      go_wp2_with fail
      go_ret
      refine ⟨?_, F2.out.trans FR.out⟩
      rw [HLS.out]
      rfl

end Go.Proofs.Qxb6500450aGreat
