/- Show. -/
import Derived.Test.Qxb6500450aGreatIds
namespace Go.Proofs.Qxb6500450aGreat
open Go Go.RowKit
set_option maxRecDepth 100000
set_option maxHeartbeats 1600000
set_option linter.unusedSimpArgs false
set_option linter.unusedVariables false

def docB (f : DocF) (i : Int) : List UInt8 := match f i with | some d => itoa i ++ [47] ++ itoa d.1 ++ [47] ++ d.2.data.toList ++ [59] | none => []
def docsB (f : DocF) : List Int → List UInt8
  | [] => []
  | i :: l => docB f i ++ docsB f l
def revL (r : Int → Nat) : List Int := (List.range 9).map fun i : Nat => (r ((i : Int) + 1) : Int)
def grpL (f : DocF) : List Int := (List.range 3).map fun i : Nat => (cnt f (i : Int) : Int)
def showL (f : DocF) (r : Int → Nat) : List UInt8 := docsB f (ids f) ++ [124] ++ ints (revL r) ++ [124] ++ ints (grpL f)

theorem docsB_snoc (f : DocF) : ∀ (l : List Int) (i : Int), docsB f (l ++ [i]) = docsB f l ++ docB f i
  | [], i => by simp [docsB]
  | a :: l, i => by simp [docsB, docsB_snoc f l i]

theorem docB_len {f : DocF} (h : OkF f) (i : Int) : (docB f i).length ≤ 60 := by
  unfold docB
  obtain e | ⟨d, e⟩ := opt (f i)
  · rw [e]; simp
  · rw [e]
    have h1 := itoa_len i
    have h2 := itoa_len d.1
    have h3 := (h.rng i d e).2.2.2.2
    have h4 : d.2.data.toList.length = d.2.size := by simp
    simp only [List.length_append, List.length_cons, List.length_nil, h4]
    omega
theorem docsB_len {f : DocF} (h : OkF f) : ∀ l : List Int, (docsB f l).length ≤ 60 * l.length
  | [] => by simp [docsB]
  | i :: l => by
    have := docB_len h i
    have := docsB_len h l
    simp [docsB]; omega

/-- A row of n numbers, filled as far as k. -/
def fillL (h : Nat → Int) (n k : Nat) : List Int := (List.range n).map fun i => if i < k then h i else 0
theorem fillL_len (h : Nat → Int) (n k : Nat) : (fillL h n k).length = n := by simp [fillL]
theorem fillL_get (h : Nat → Int) (n k i : Nat) : (fillL h n k)[i]? = if i < n then some (if i < k then h i else 0) else none := by
  unfold fillL
  rw [List.getElem?_map]
  by_cases hi : i < n
  · rw [if_pos hi, List.getElem?_range hi]; rfl
  · rw [if_neg hi, List.getElem?_eq_none (by simpa using hi)]; rfl
theorem fillL_step (h : Nat → Int) (n k : Nat) : (fillL h n k).set k (h k) = fillL h n (k + 1) := by
  apply List.ext_getElem?
  intro i
  rw [List.getElem?_set, fillL_get, fillL_get, fillL_len]
  by_cases hi : k = i
  · subst hi
    rw [if_pos rfl]
    by_cases hk : k < n
    · rw [if_pos hk, if_pos hk, if_pos (by omega)]
    · rw [if_neg hk, if_neg hk]
  · rw [if_neg hi]
    by_cases hk : i < k
    · rw [if_pos hk, if_pos (show i < k + 1 by omega)]
    · rw [if_neg hk, if_neg (show ¬ i < k + 1 by omega)]
theorem fillL_full (h : Nat → Int) (n : Nat) : fillL h n n = (List.range n).map h := by
  unfold fillL
  apply List.map_congr_left
  intro i hi
  rw [if_pos (by simpa using hi)]
theorem fillL_zero (h : Nat → Int) (n : Nat) : fillL h n 0 = List.replicate n 0 := by
  apply List.ext_getElem?
  intro i
  rw [fillL_get, List.getElem?_replicate]
  simp

theorem mk9 (w : World) : (Instr.makeSlice 59 (.int .i64 9) (.int .i64 9)).run Tryz.prog w = .ok (.slice (some ⟨w.heap.size, 0, none⟩) 9 9) (w.alloc (.cells #[.int .i64 0, .int .i64 0, .int .i64 0, .int .i64 0, .int .i64 0, .int .i64 0, .int .i64 0, .int .i64 0, .int .i64 0] 3)) := by kernel_rfl
theorem mk3 (w : World) : (Instr.makeSlice 59 (.int .i64 3) (.int .i64 3)).run Tryz.prog w = .ok (.slice (some ⟨w.heap.size, 0, none⟩) 3 3) (w.alloc (.cells #[.int .i64 0, .int .i64 0, .int .i64 0] 3)) := by kernel_rfl

theorem OwnI.made9 (w : World) (h : Nat → Int) : OwnI (w.alloc (.cells #[.int .i64 0, .int .i64 0, .int .i64 0, .int .i64 0, .int .i64 0, .int .i64 0, .int .i64 0, .int .i64 0, .int .i64 0] 3)) w.heap.size (.slice (some ⟨w.heap.size, 0, none⟩) 9 9) (fillL h 9 0) := by
  rw [fillL_zero]
  exact World.ownsRow_lit w _ 9 (Nat.le_refl _) (by unfold maxLen; omega) rfl
theorem OwnI.made3 (w : World) (h : Nat → Int) : OwnI (w.alloc (.cells #[.int .i64 0, .int .i64 0, .int .i64 0] 3)) w.heap.size (.slice (some ⟨w.heap.size, 0, none⟩) 3 3) (fillL h 3 0) := by
  rw [fillL_zero]
  exact World.ownsRow_lit w _ 3 (Nat.le_refl _) (by unfold maxLen; omega) rfl

theorem show_any {w : World} {F : Nat → Prop} {bS : Nat} {f : DocF} {r : Int → Nat} (h : SR w F bS f r) (hr : ∀ k, r k < 4611686018427387904) :
    Calls Tryz.prog 74 #[.pointer (some ⟨bS, 0, none⟩)] w fun e w' => e = .returned (.string (bs (showL f r))) ∧ Fr (fun _ => False) w w' := by
  have H0 := hid h
  have HR := hid hr
  have HO := hid h.ok
  obtain ⟨bd, br, bg, p, n, m, q, h⟩ := h
  have H := hid h
  clear h hr
  have m9 := mk9
  have m3 := mk3
  go_enter Tryz.func74, Tryz.ntmps74
  go_wp2_with fail
  refine (ids_any H0.out).mono ?_
  rintro e w1 ⟨v, rfl, ow1, _, f1⟩
  have hi64 : ∀ i ∈ ids f, I64 i := fun i hi => by
    have := nine_mem (List.mem_filter.1 hi).1
    unfold I64; omega
  obtain ⟨a, cap, rfl, ia⟩ := ow1.ints hi64
  have IA := hid ia
  have F1 := hid f1
  have hn9 : (ids f).length ≤ 9 := by rw [ids_len]; exact nDocs_le f
  obtain ⟨L, hL⟩ : ∃ L, L = (ids f).length := ⟨_, rfl⟩
  rw [← hL] at hn9 ⊢
  have HL := hid hL
  clear ia f1 ow1 hi64 hL
  go_wp2_with fail
  go_loopw [3, 20] (fun t i wr => ∃ k : Nat, k ≤ L ∧ i = .int .i64 k ∧ t = .string (bs (docsB f ((ids f).take k))) ∧ Fr (fun _ => False) w1 wr) (fun _ i _ => L - (intOf i).toNat)
  case atStart => exact ⟨0, by omega, rfl, rfl, Fr.refl _ _⟩
  case round =>
    obtain ⟨k, hk, rfl, rfl, fr⟩ := hrel
    have hk0 : (0 : Int) ≤ (k : Int) := by omega
    have FR := hid fr
    have FW := hid (F1.out.trans fr)
    have hz : (bs (docsB f ((ids f).take k))).size ≤ 1000 := by
      rw [bs_size]
      have h1 := docsB_len HO.out ((ids f).take k)
      have h2 : ((ids f).take k).length ≤ k := List.length_take_le _ _
      omega
    clear fr
    by_cases hlt : k < L
    · have hltI : (k : Int) < (L : Int) := by omega
      have hkl : k < (ids f).length := by have := HL.out; omega
      obtain ⟨h1, h | ⟨b, off, rfl, hb, hc⟩⟩ := IA.out
      · rw [h] at hkl; simp at hkl
      have c := FR.out.cell (p := ⟨b, off + k, none⟩) hb (fun f => f)
      rw [hc k hkl] at c
      have hget : (ids f).getD k 0 = (ids f)[k] := by simp [List.getD, hkl]
      have hin : (ids f).getD k 0 ∈ ids f := by rw [hget]; exact List.getElem_mem _
      have HT : Hid (docsB f ((ids f).take (k + 1)) = docsB f ((ids f).take k) ++ docB f ((ids f).getD k 0)) := by
        unfold Hid
        rw [List.take_succ_eq_append_getElem hkl, docsB_snoc, hget]
      generalize (ids f).getD k 0 = x at *
      have hx := (ids_mem HO.out x).1 hin
      obtain e | ⟨d, e⟩ := opt (f x)
      · rw [e] at hx; cases hx
      obtain ⟨x1, x2, d1, d2, d3⟩ := HO.out.rng x d e
      have HD := hid ((H.out.docs x d e).fr FW.out (fun h => h))
      have HM : Hid (dm p f x = some (.pointer (some ⟨p x, 0, none⟩))) := by simp [Hid, dm, e]
      have HB : Hid (docB f x = itoa x ++ [47] ++ itoa d.1 ++ [47] ++ d.2.data.toList ++ [59]) := by simp [Hid, docB, e]
      have s0 := (H.out.s0.fr FW.out (fun h => h)).c
      have c0 := HD.out.c0.c
      clear hc h1 hget hin hx e
      have z1 : (bs (itoa x)).size ≤ 21 := by rw [bs_size]; exact itoa_len _
      have z2 : (bs (itoa d.1)).size ≤ 21 := by rw [bs_size]; exact itoa_len _
      obtain ⟨pb, hpb⟩ : ∃ pb, pb = p x := ⟨_, rfl⟩
      rw [← hpb] at HD HM c0
      clear hpb
      go_wp2_with (first
        | (at_lookup; refine wp_look1 rfl rfl kInt uDocs zPtr (H.out.md.fr FW.out (fun h => h)) rfl (k := x) rfl (v := .pointer (some ⟨pb, 0, none⟩)) (by rw [HM.out]; rfl) ?_)
        | fail)
      refine (itoa_any x _ (by omega) (by omega)).mono ?_
      rintro e w2 ⟨rfl, f2⟩
      have HD2 := hid (HD.out.fr f2 (fun h => h))
      have FR2 := hid (FR.out.trans f2)
      have c1 := HD2.out.c1.c
      clear f2 c0 c s0
      go_wp2_with fail
      refine (itoa_any d.1 _ (by omega) (by omega)).mono ?_
      rintro e w3 ⟨rfl, f3⟩
      have HD3 := hid (HD2.out.fr f3 (fun h => h))
      have FR3 := hid (FR2.out.trans f3)
      have c2 := HD3.out.c2.c
      clear f3 c1
      go_wp2_with fail
      refine ⟨⟨k + 1, by omega, by go_num, ?_, FR3.out⟩, by simp [intOf]; omega⟩
      rw [HT.out, HB.out, ← bs_append, ← bs_append, ← bs_append, ← bs_append, ← bs_append, ← bs_append, bs_eta]
      simp only [ByteArray.append_assoc]
      rfl
    · have hltI : ¬ (k : Int) < (L : Int) := by omega
      have e : (ids f).take k = ids f := List.take_of_length_le (by have := HL.out; omega)
      rw [e] at hz ⊢
      clear e
      go_wp2_with fail
      have OW := hid (OwnI.made9 wr (fun i : Nat => (r ((i : Int) + 1) : Int)))
      have FA := hid (FW.out.alloc (.cells #[.int .i64 0, .int .i64 0, .int .i64 0, .int .i64 0, .int .i64 0, .int .i64 0, .int .i64 0, .int .i64 0, .int .i64 0] 3))
      have hgw : w.heap.size ≤ wr.heap.size := FW.out.size
      generalize wr.alloc (.cells #[.int .i64 0, .int .i64 0, .int .i64 0, .int .i64 0, .int .i64 0, .int .i64 0, .int .i64 0, .int .i64 0, .int .i64 0] 3) = wa at *
      generalize wr.heap.size = g9 at *
      clear FR FW
      go_loopw [55] (fun i wi => ∃ j : Nat, j ≤ 9 ∧ i = .int .i64 j ∧ OwnI wi g9 (.slice (some ⟨g9, 0, none⟩) 9 9) (fillL (fun i : Nat => (r ((i : Int) + 1) : Int)) 9 j) ∧ Fr (fun _ => False) w wi) (fun i _ => 9 - (intOf i).toNat)
      case atStart => exact ⟨0, by omega, rfl, OW.out, FA.out⟩
      case round =>
        clear OW FA
        obtain ⟨j, hj, rfl, ow, fr⟩ := hrel
        have OW := hid ow
        have FR := hid fr
        have hj0 : (0 : Int) ≤ (j : Int) := by omega
        by_cases hlt9 : j < 9
        · have hj9 : (j : Int) < 9 := by omega
          have a := ow.cell (by rw [fillL_len]) (j := j) (by rw [fillL_len]; omega)
          have c := a.c
          have x := a.f
          have s1 := (H.out.s1.fr fr (fun h => h)).c
          clear a ow fr
          go_wp2_with (first
            | (at_lookup; refine wp_look1 rfl rfl kInt uInts zInt (H.out.mr.fr FR.out (fun h => h)) rfl (k := (j : Int) + 1) rfl (cm_get _ _) ?_)
            | fail)
          refine ⟨⟨j + 1, by omega, by go_num, ?_, ?_⟩, by simp [intOf]; omega⟩
          · have := OW.out.set (by rw [fillL_len]) j (r ((j : Int) + 1) : Int)
            rw [fillL_step (fun i : Nat => (r ((i : Int) + 1) : Int)) 9 j] at this
            exact this
          · exact FR.out.setN hgw _ _
        · have hj9 : ¬ (j : Int) < 9 := by omega
          obtain rfl : j = 9 := by omega
          rw [fillL_full] at OW
          clear ow
          go_wp2_with fail
          have OG := hid (OwnI.made3 wr (fun i : Nat => (cnt f (i : Int) : Int)))
          have FA := hid (FR.out.alloc (.cells #[.int .i64 0, .int .i64 0, .int .i64 0] 3))
          have OR := hid (OW.out.fr ((Fr.refl (fun _ => False) _).alloc (.cells #[.int .i64 0, .int .i64 0, .int .i64 0] 3)) (fun _ _ h => h))
          have hg39 : g9 < wr.heap.size := (OW.out.lt rfl).2
          generalize wr.alloc (.cells #[.int .i64 0, .int .i64 0, .int .i64 0] 3) = wb at *
          generalize wr.heap.size = g3 at *
          clear FR fr OW
          go_loopw [70] (fun i wi => ∃ j : Nat, j ≤ 3 ∧ i = .int .i64 j ∧ OwnI wi g3 (.slice (some ⟨g3, 0, none⟩) 3 3) (fillL (fun i : Nat => (cnt f (i : Int) : Int)) 3 j) ∧ OwnI wi g9 (.slice (some ⟨g9, 0, none⟩) 9 9) (revL r) ∧ Fr (fun _ => False) w wi) (fun i _ => 3 - (intOf i).toNat)
          case atStart => exact ⟨0, by omega, rfl, OG.out, OR.out, FA.out⟩
          case round =>
            clear OG FA OR
            obtain ⟨j, hj, rfl, og, orr, fr⟩ := hrel
            have OG := hid og
            have OR := hid orr
            have FR := hid fr
            have hj0 : (0 : Int) ≤ (j : Int) := by omega
            by_cases hlt3 : j < 3
            · have hj3 : (j : Int) < 3 := by omega
              have a := og.cell (by rw [fillL_len]) (j := j) (by rw [fillL_len]; omega)
              have c := a.c
              have x := a.f
              have s2 := (H.out.s2.fr fr (fun h => h)).c
              clear a og fr orr
              go_wp2_with (first
                | (at_lookup; refine wp_look1 rfl rfl kInt uInts zInt (H.out.mg.fr FR.out (fun h => h)) rfl (k := (j : Int)) rfl (cm_get _ _) ?_)
                | fail)
              refine ⟨⟨j + 1, by omega, by go_num, ?_, ?_, ?_⟩, by simp [intOf]; omega⟩
              · have := OG.out.set (by rw [fillL_len]) j (cnt f (j : Int) : Int)
                rw [fillL_step (fun i : Nat => (cnt f (i : Int) : Int)) 3 j] at this
                exact this
              · exact OR.out.fr ((Fr.refl (fun i => i = g3) _).setCell (p := ⟨g3, j, none⟩) (fun _ => rfl) _) (fun k hk e => by simp [Value.ownBlock] at hk; omega)
              · exact FR.out.setN (by omega) _ _
            · have hj3 : ¬ (j : Int) < 3 := by omega
              obtain rfl : j = 3 := by omega
              rw [fillL_full] at OG
              clear og orr fr
              have hR : ∀ n ∈ revL r, I64 n := fun n hn => by
                simp only [revL, List.mem_map] at hn
                obtain ⟨i, _, rfl⟩ := hn
                have := HR.out ((i : Int) + 1)
                unfold I64; omega
              have hG : ∀ n ∈ grpL f, I64 n := fun n hn => by
                simp only [grpL, List.mem_map] at hn
                obtain ⟨i, _, rfl⟩ := hn
                have := cnt_le f (i : Int)
                have := nDocs_le f
                unfold I64; omega
              have HIR : Hid (IntsAt wr (some ⟨g9, 0, none⟩) (revL r)) := by
                obtain ⟨a, cp, e, h⟩ := OR.out.ints hR
                cases e
                exact h
              have HIG : Hid (IntsAt wr (some ⟨g3, 0, none⟩) (grpL f)) := by
                obtain ⟨a, cp, e, h⟩ := (show OwnI wr g3 _ (grpL f) from OG.out).ints hG
                cases e
                exact h
              clear hR hG
              go_wp2_with fail
              refine (ints_any (l := revL r) 9 HIR.out (by simp [revL])).mono ?_
              rintro e w5 ⟨rfl, f5⟩
              have F5 := hid f5
              have HIG5 := hid (HIG.out.fr f5 (fun _ _ _ h => h))
              clear f5
              go_wp2_with fail
              refine (ints_any (l := grpL f) 3 HIG5.out (by simp [grpL])).mono ?_
              rintro e w6 ⟨rfl, f6⟩
              have F6 := hid f6
              have y1 : (bs (ints (revL r))).size ≤ 1000 := by
                rw [bs_size]
                have := ints_len (revL r)
                have e : (revL r).length = 9 := by simp [revL]
                omega
              have y2 : (bs (ints (grpL f))).size ≤ 1000 := by
                rw [bs_size]
                have := ints_len (grpL f)
                have e : (grpL f).length = 3 := by simp [grpL]
                omega
              clear f6
              go_wp2_with fail
              go_ret
              refine ⟨?_, (FR.out.trans F5.out).trans F6.out⟩
              unfold showL
              rw [← bs_append, ← bs_append, ← bs_append, ← bs_append]
              rfl

end Go.Proofs.Qxb6500450aGreat
