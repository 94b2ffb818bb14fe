/- The law's Kept. -/
import Derived.Test.Qxb6500450aRTop
namespace Go.Proofs.Qxb6500450a
open Go Go.RowKit
set_option maxRecDepth 100000
set_option maxHeartbeats 8000000
set_option linter.unusedSimpArgs false
set_option linter.unusedVariables false
variable {bS bX : Nat}

/-- How many have gone, as the clauses demand it. -/
structure Gone (o : Stp) (ae an gone n : Int) : Prop where
  dr : o.kind = 3 ∨ o.kind = 10 → gone = an
  d0 : o.kind = 2 → ae = 0 → gone = 1
  d1 : o.kind = 2 → ae ≠ 0 → gone = 0
  p0 : o.kind = 1 → ae = 0 → -1 ≤ gone ∧ gone ≤ 0
  p1 : o.kind = 1 → ae ≠ 0 → gone = 0
  no : o.kind ≠ 1 → o.kind ≠ 2 → o.kind ≠ 3 → o.kind ≠ 10 → gone = 0
  rs : o.kind = 10 → n = 0
  du : 4 ≤ o.kind → o.kind ≤ 6 → ae = dueE o

theorem nDocs_del1 {f : DocF} (ok : OkF f) {id : Int} {d : Int × ByteArray} (h : f id = some d) : nDocs f = nDocs (delD f id) + 1 := by
  obtain ⟨h1, h2, _⟩ := ok.rng id d h
  have := nDocs_del f h1 h2
  rw [h] at this
  simp at this
  omega

theorem gone_plain {f : DocF} (ok : OkF f) (o : Stp) : Gone o (doE f o) (doN f o) ((nDocs f : Int) - (nDocs (doF f o) : Int)) (nDocs (doF f o) : Int) := by
  refine ⟨fun h => ?_, fun h h0 => ?_, fun h h0 => ?_, fun h h0 => ?_, fun h h0 => ?_, fun h1 h2 h3 h4 => ?_, fun h => ?_, fun h4 h6 => (due_do f o h4 h6).symm⟩
  · rcases h with h | h
    · have e1 : doF f o = dropD f o.a := by simp [doF, h]
      have e2 : doN f o = (cnt f o.a : Int) := by simp [doN, h]
      have := nDocs_drop f o.a
      rw [e1, e2]; omega
    · have e1 : doF f o = noD := by simp [doF, h]
      have e2 : doN f o = (nDocs f : Int) := by simp [doN, h]
      rw [e1, e2, nDocs_no]; omega
  · have e1 : doF f o = delD f o.a := by simp [doF, h]
    have e2 : doE f o = delE f o.a := by simp [doE, h]
    rw [e2] at h0
    rcases del_cases f ok o.a with ⟨hne, _⟩ | ⟨_, _, _, g, t, hs, _⟩
    · exact absurd h0 hne
    · have := nDocs_del1 ok hs
      rw [e1]; omega
  · have e1 : doF f o = delD f o.a := by simp [doF, h]
    have e2 : doE f o = delE f o.a := by simp [doE, h]
    rw [e2] at h0
    rcases del_cases f ok o.a with ⟨_, hno⟩ | ⟨he, _⟩
    · rw [e1, delD_none hno]; omega
    · exact absurd he h0
  · have e1 : doF f o = putF f o.a o.b o.s := by simp [doF, h]
    have e2 : doE f o = putE f o.a o.b o.s := by simp [doE, h]
    rw [e2] at h0
    rcases put_cases f ok o.a o.b o.s with ⟨hne, _⟩ | ⟨_, h1, h2, _, hpf, _⟩
    · exact absurd h0 hne
    · rw [e1, hpf]
      have hp := nDocs_put f h1 h2 o.b o.s
      have hb : ((f o.a).isSome).toNat ≤ 1 := Bool.toNat_le _
      omega
  · have e1 : doF f o = putF f o.a o.b o.s := by simp [doF, h]
    have e2 : doE f o = putE f o.a o.b o.s := by simp [doE, h]
    rw [e2] at h0
    have : putF f o.a o.b o.s = f := by unfold putF; rw [if_neg h0]
    rw [e1, this]; omega
  · have e1 : doF f o = f := by simp [doF, h1, h2, h3, h4]
    rw [e1]; omega
  · have e1 : doF f o = noD := by simp [doF, h]
    rw [e1, nDocs_no]; rfl

theorem kept_any {w : World} {F : Nat → Prop} {bQ : Nat} {f : DocF} {r : Int → Nat} (h : QR bX bS w F bQ f r) (o : Stp) (ae an am : Int) (as' : ByteArray) (was : Nat) (hwas : was ≤ 9) (hg : Gone o ae an ((was : Int) - (nDocs f : Int)) (nDocs f : Int)) :
    Calls Try.prog 14 #[bwV bX, .pointer (some ⟨bQ, 0, none⟩), o.val, ansV ae an am as', .int .i64 (was : Int)] w fun e w' => e = .returned (.bool true) ∧ Fr (fun _ => False) w w' := by
  have OK := hid h.ok
  have HG := hid hg
  have BX : Hid (∃ W pB pO pA, W = ((w.alloc (.cells #[.pointer (some ⟨bX, 0, none⟩)] 27)).alloc (.cells #[.int .i64 o.kind, .int .i64 o.a, .int .i64 o.b, .int .i64 o.c, .string o.s, .string o.t] 38)).alloc (.cells #[.int .i64 ae, .int .i64 an, .int .i64 am, .string as'] 35) ∧ pB = w.heap.size ∧ pO = w.heap.size + 1 ∧ pA = w.heap.size + 1 + 1 ∧ At W pB 0 (.pointer (some ⟨bX, 0, none⟩)) ∧ StpAt W pO 0 o ∧ AnsAt W pA ae an am as' ∧ QR bX bS W F bQ f r ∧ Fr (fun _ => False) w W) := by
    have fB := (Fr.refl (fun _ => False) w).alloc (.cells #[.pointer (some ⟨bX, 0, none⟩)] 27)
    have b0 : At (w.alloc (.cells #[.pointer (some ⟨bX, 0, none⟩)] 27)) w.heap.size 0 (.pointer (some ⟨bX, 0, none⟩)) := At.new w _ _ rfl
    have z0 : (w.alloc (.cells #[.pointer (some ⟨bX, 0, none⟩)] 27)).heap.size = w.heap.size + 1 := by simp
    generalize w.alloc (.cells #[.pointer (some ⟨bX, 0, none⟩)] 27) = w1 at *
    have fO := (Fr.refl (fun _ => False) w1).alloc (.cells #[.int .i64 o.kind, .int .i64 o.a, .int .i64 o.b, .int .i64 o.c, .string o.s, .string o.t] 38)
    have o0 := StpAt.new w1 o
    have z1 : (w1.alloc (.cells #[.int .i64 o.kind, .int .i64 o.a, .int .i64 o.b, .int .i64 o.c, .string o.s, .string o.t] 38)).heap.size = w1.heap.size + 1 := by simp
    generalize w1.alloc (.cells #[.int .i64 o.kind, .int .i64 o.a, .int .i64 o.b, .int .i64 o.c, .string o.s, .string o.t] 38) = w2 at *
    have fA := (Fr.refl (fun _ => False) w2).alloc (.cells #[.int .i64 ae, .int .i64 an, .int .i64 am, .string as'] 35)
    have a0 := AnsAt.new w2 ae an am as'
    rw [z0] at o0
    rw [z1, z0] at a0
    exact ⟨_, _, _, _, rfl, rfl, rfl, rfl, (b0.fr fO (fun h => h)).fr fA (fun h => h), o0.fr fA, a0, ((h.frw fB (fun _ _ h => h)).frw fO (fun _ _ h => h)).frw fA (fun _ _ h => h), (fB.trans fO).trans fA⟩
  have hn6 := h.ok.few
  clear h hg
  simp only [Stp.val, ansV, bwV]
  go_enter Try.func14, Try.ntmps14
  go_upto_region 1 with fail
  obtain ⟨W, pB, pO, pA, hW, hB, hO, hA, b0, o0, a0, q0, f0⟩ := BX.out
  rw [← hW, ← hA, ← hO, ← hB]
  have B0 := hid b0
  have O0 := hid o0
  have A0 := hid a0
  have Q0 := hid q0
  have F0 := hid f0
  clear hW hB hO hA b0 o0 a0 q0 f0 BX
  have hnI : (nDocs f : Int) ≤ 6 := by omega
  have hwI : (was : Int) ≤ 9 := by omega
  go_upto_region 2 with (first
    | (go_at_call 11; refine (qlen_any Q0.out).mono ?_; rintro e w1 ⟨rfl, hw1⟩; obtain rfl := hw1.symm)
    | go_in)
  have hn0 : (0 : Int) ≤ (nDocs f : Int) := by omega
  have hw0 : (0 : Int) ≤ (was : Int) := by omega
  obtain ⟨n, hn⟩ : ∃ n : Int, n = (nDocs f : Int) := ⟨_, rfl⟩
  rw [← hn] at HG hnI hn0 ⊢
  obtain ⟨ws, hws⟩ : ∃ ws : Int, ws = (was : Int) := ⟨_, rfl⟩
  rw [← hws] at HG hwI hw0 ⊢
  clear hn hws hn6
  go_upto_region 3 with fail
  obtain ⟨gone, hgone⟩ : ∃ g : Int, g = ws - n := ⟨_, rfl⟩
  rw [← hgone] at HG ⊢
  clear hgone
  go_upto_block 0 with fail
  go_cut [13, 14] (fun x y wx => ∃ lo hi : Int, x = .int .i64 lo ∧ y = .int .i64 hi ∧ lo ≤ gone ∧ gone ≤ hi ∧ Fr (fun _ => False) W wx)
  case first =>
    obtain ⟨e0, e1, e2, e3⟩ := A0.out
    obtain ⟨d0, d1, d2, d3, d4, d5⟩ := O0.out
    have y0 := e0.c
    have y1 := e1.c
    clear d1 d2 d3 d4 d5 e0 e1 e2 e3
    by_cases k3 : o.kind = 3
    · have HE := hid (HG.out.dr (.inl k3))
      have j3 : (o.kind == 3) = true := by simp [k3]
      clear k3
      go_upto_region 5 with fail
      go_region
      all_goals go_wp2_with fail
      all_goals go_meet
      all_goals exact ⟨an, an, rfl, rfl, by rw [HE.out]; exact Int.le_refl _, by rw [HE.out]; exact Int.le_refl _, by first | exact (Fr.refl _ _).drew | exact Fr.refl _ _⟩
    have j3 : (o.kind == 3) = false := by simp [k3]
    by_cases k10 : o.kind = 10
    · have HE := hid (HG.out.dr (.inr k10))
      have j10 : (o.kind == 10) = true := by simp [k10]
      clear k3 k10
      go_upto_region 5 with fail
      go_region
      all_goals go_wp2_with fail
      all_goals go_meet
      all_goals exact ⟨an, an, rfl, rfl, by rw [HE.out]; exact Int.le_refl _, by rw [HE.out]; exact Int.le_refl _, by first | exact (Fr.refl _ _).drew | exact Fr.refl _ _⟩
    have j10 : (o.kind == 10) = false := by simp [k10]
    by_cases k2 : o.kind = 2
    · have j2 : (o.kind == 2) = true := by simp [k2]
      have j1 : (o.kind == 1) = false := by simp [k2]
      by_cases h0 : ae = 0
      · have HE := hid (HG.out.d0 k2 h0)
        have b0 : (ae == 0) = true := by simp [h0]
        clear k3 k10 k2 h0
        go_wp2_with fail
        go_meet
        case rel => exact ⟨1, 1, rfl, rfl, by rw [HE.out]; exact Int.le_refl _, by rw [HE.out]; exact Int.le_refl _, Fr.refl _ _⟩
      · have HE := hid (HG.out.d1 k2 h0)
        have b0 : (ae == 0) = false := by simp [h0]
        clear k3 k10 k2 h0
        go_wp2_with fail
        go_meet
        case rel => exact ⟨0, 0, rfl, rfl, by rw [HE.out]; exact Int.le_refl _, by rw [HE.out]; exact Int.le_refl _, Fr.refl _ _⟩
    have j2 : (o.kind == 2) = false := by simp [k2]
    by_cases k1 : o.kind = 1
    · have j1 : (o.kind == 1) = true := by simp [k1]
      by_cases h0 : ae = 0
      · have HE := hid (HG.out.p0 k1 h0)
        have b0 : (ae == 0) = true := by simp [h0]
        clear k3 k10 k2 k1 h0
        go_wp2_with fail
        go_meet
        case rel => exact ⟨-1, 0, rfl, rfl, HE.out.1, HE.out.2, Fr.refl _ _⟩
      · have HE := hid (HG.out.p1 k1 h0)
        have b0 : (ae == 0) = false := by simp [h0]
        clear k3 k10 k2 k1 h0
        go_wp2_with fail
        go_meet
        case rel => exact ⟨0, 0, rfl, rfl, by rw [HE.out]; exact Int.le_refl _, by rw [HE.out]; exact Int.le_refl _, Fr.refl _ _⟩
    · have j1 : (o.kind == 1) = false := by simp [k1]
      have HE := hid (HG.out.no k1 k2 k3 k10)
      clear k3 k10 k2 k1
      go_wp2_with fail
      go_meet
      case rel => exact ⟨0, 0, rfl, rfl, by rw [HE.out]; exact Int.le_refl _, by rw [HE.out]; exact Int.le_refl _, Fr.refl _ _⟩
  case rest =>
    obtain ⟨lo, hi, rfl, rfl, hlo, hhi, fc⟩ := hcut
    have FC := hid fc
    have F1 := hid (F0.out.trans fc)
    have B1 := hid (B0.out.fr fc (fun h => h))
    have O1 := hid (O0.out.fr fc)
    have A1 := hid (A0.out.fr fc (fun h => h))
    have Q1 := hid (Q0.out.frw fc (fun _ _ h => h))
    clear fc B0 O0 A0 Q0 F0 FC
    have hlo' : ¬ gone < lo := by omega
    have hhi' : ¬ hi < gone := by omega
    have hn6' : ¬ 6 < n := by omega
    clear hlo hhi
    obtain ⟨d0, d1, d2, d3, d4, d5⟩ := O1.out
    simp only [Nat.zero_add] at d1 d2 d3 d4 d5
    have e0 := A1.out.a0.c
    have b0 := B1.out.c
    go_upto_region 10 with fail
    go_cut [71] (fun c wx => c = .bool false ∧ wx = wc)
    case first =>
      by_cases k10 : o.kind = 10
      · have hn0' := HG.out.rs k10
        subst hn0'
        have j10 : (o.kind == 10) = true := by simp [k10]
        clear k10
        go_wp2_with fail
        go_meet
        case rel => exact ⟨rfl, rfl⟩
      · have j10 : (o.kind == 10) = false := by simp [k10]
        clear k10
        go_wp2_with fail
        go_meet
        case rel => exact ⟨rfl, rfl⟩
    case rest =>
      obtain ⟨rfl, hwx⟩ := hcut
      obtain rfl := hwx.symm
      clear hwx hlo' hhi' hn6'
      go_upto_region 12 with fail
      have lO := O1.out.lt
      have lA := A1.out.a0.lt
      go_cut [86] (fun c wx => c = .bool false ∧ Fr (fun _ => False) wc wx)
      case first =>
        by_cases k4 : 4 ≤ o.kind
        · by_cases k6 : o.kind ≤ 6
          · have hdue := HG.out.du k4 k6
            subst hdue
            have HD : Hid (∀ W, Fr (fun _ => False) wc W → Calls Try.prog 33 #[.agg #[.int .i64 o.kind, .int .i64 o.a, .int .i64 o.b, .int .i64 o.c, .string o.s, .string o.t]] W fun e w' => e = .returned (.int .i64 (dueE o)) ∧ Fr (fun _ => False) W w') := by
              intro W hW
              have := due_any o W k4 k6
              simp only [Stp.val] at this
              exact this
            generalize dueE o = de at *
            have hk : o.kind = 4 ∨ o.kind = 5 ∨ o.kind = 6 := by omega
            clear k4 k6
            rcases hk with hk | hk | hk
            all_goals rw [hk] at d0 HD
            all_goals clear hk
            all_goals go_region_with (go_at_call 33; refine (HD.out _ (by exact (Fr.refl _ _).drew)).mono ?_; rintro e x7 ⟨rfl, f7⟩; have F7 := hid ((Fr.refl (fun _ => False) wc).drew.trans f7); have c7 := (A1.out.a0.fr F7.out (fun h => h)).c)
            all_goals go_wp2_with fail
            all_goals go_meet
            all_goals exact ⟨by simp, F7.out⟩
          · have k6' : ¬ o.kind ≤ 6 := k6
            have hd4 : decide (4 ≤ o.kind) = true := decide_eq_true k4
            have hd6 : decide (o.kind ≤ 6) = false := decide_eq_false k6
            go_wp2_with fail
            go_quiet (fail)
            go_wp2_with fail
            go_meet
            case rel => exact ⟨rfl, (Fr.refl _ _).drewN _⟩
        · have hd4 : decide (4 ≤ o.kind) = false := decide_eq_false k4
          go_wp2_with fail
          go_quiet (fail)
          go_wp2_with fail
          go_meet
          case rel => exact ⟨rfl, (Fr.refl _ _).drewN _⟩
      case rest =>
        obtain ⟨rfl, fc⟩ := hcut
        have F2 := hid (F1.out.trans fc)
        have B2 := hid (B1.out.fr fc (fun h => h))
        have O2 := hid (O1.out.fr fc)
        have Q2 := hid (Q1.out.frw fc (fun _ _ h => h))
        clear fc B1 O1 A1 Q1 F1 d0 d1 d2 d3 d4 d5 e0 b0 lO lA HG
        have TOP : Hid (∀ W, Fr (fun _ => False) wc W → Calls Try.prog 37 #[.agg #[.pointer (some ⟨bX, 0, none⟩)], .pointer (some ⟨bQ, 0, none⟩), .int .i64 o.a] W fun e w' => e = .returned (.bool true) ∧ Fr (fun _ => False) W w') := by
          intro W hW
          have := topOrder_any (Q2.out.frw hW (fun _ _ h => h)) o.a
          simp only [bwV] at this
          exact this
        obtain ⟨d0, d1, d2, d3, d4, d5⟩ := O2.out
        simp only [Nat.zero_add] at d1 d2 d3 d4 d5
        have b0 := B2.out.c
        by_cases hs : o.s.size ≤ 12
        · have hsI : (o.s.size : Int) ≤ 12 := by omega
          by_cases ht : o.t.size ≤ 12
          · have htI : (o.t.size : Int) ≤ 12 := by omega
            have HT1 : Hid (∀ W, Fr (fun _ => False) wc W → Calls Try.prog 34 #[.agg #[.pointer (some ⟨bX, 0, none⟩)], .pointer (some ⟨bQ, 0, none⟩), .string o.s] W fun e w' => e = .returned (.bool true) ∧ Fr (fun _ => False) W w') := by
              intro W hW
              have := tied_any (Q2.out.frw hW (fun _ _ h => h)) hs
              simp only [bwV] at this
              exact this
            have HT2 : Hid (∀ W, Fr (fun _ => False) wc W → Calls Try.prog 34 #[.agg #[.pointer (some ⟨bX, 0, none⟩)], .pointer (some ⟨bQ, 0, none⟩), .string o.t] W fun e w' => e = .returned (.bool true) ∧ Fr (fun _ => False) W w') := by
              intro W hW
              have := tied_any (Q2.out.frw hW (fun _ _ h => h)) ht
              simp only [bwV] at this
              exact this
            have HSP : Hid (∀ W, Fr (fun _ => False) wc W → Calls Try.prog 35 #[.pointer (some ⟨bQ, 0, none⟩), .string o.s, .string o.t] W fun e w' => e = .returned (.bool true) ∧ Fr (fun _ => False) W w') := fun W hW => splitQ_any (Q2.out.frw hW (fun _ _ h => h)) hs ht
            have HGS : Hid (∀ W, Fr (fun _ => False) wc W → Calls Try.prog 36 #[.agg #[.pointer (some ⟨bX, 0, none⟩)], .pointer (some ⟨bQ, 0, none⟩), .string o.s] W fun e w' => e = .returned (.bool true) ∧ Fr (fun _ => False) W w') := by
              intro W hW
              have := groupSum_any (Q2.out.frw hW (fun _ _ h => h)) hs
              simp only [bwV] at this
              exact this
            clear hs ht
            go_upto_region 17 with (first
              | (go_at_call 34; refine (HT1.out _ (Fr.refl _ _)).mono ?_; rintro e x1 ⟨rfl, f1⟩)
              | go_in)
            have G1 := hid f1
            clear f1 d0 d1 d2 d3 d4 d5 b0
            obtain ⟨d0, d1, d2, d3, d4, d5⟩ := O2.out.fr G1.out
            simp only [Nat.zero_add] at d1 d2 d3 d4 d5
            have b0 := (B2.out.fr G1.out (fun h => h)).c
            go_upto_region 19 with (first
              | (go_at_call 34; refine (HT2.out _ G1.out).mono ?_; rintro e x2 ⟨rfl, f2⟩)
              | go_in)
            have G2 := hid (G1.out.trans f2)
            clear f2 d0 d1 d2 d3 d4 d5 b0
            obtain ⟨d0, d1, d2, d3, d4, d5⟩ := O2.out.fr G2.out
            simp only [Nat.zero_add] at d1 d2 d3 d4 d5
            go_upto_region 21 with (first
              | (go_at_call 35; refine (HSP.out _ G2.out).mono ?_; rintro e x3 ⟨rfl, f3⟩)
              | go_in)
            have G3 := hid (G2.out.trans f3)
            clear f3 d0 d1 d2 d3 d4 d5
            obtain ⟨d0, d1, d2, d3, d4, d5⟩ := O2.out.fr G3.out
            simp only [Nat.zero_add] at d1 d2 d3 d4 d5
            have b0 := (B2.out.fr G3.out (fun h => h)).c
            go_upto_region 23 with (first
              | (go_at_call 36; refine (HGS.out _ G3.out).mono ?_; rintro e x4 ⟨rfl, f4⟩)
              | go_in)
            have G4 := hid (G3.out.trans f4)
            clear f4 d0 d1 d2 d3 d4 d5 b0
            obtain ⟨d0, d1, d2, d3, d4, d5⟩ := O2.out.fr G4.out
            simp only [Nat.zero_add] at d1 d2 d3 d4 d5
            have b0 := (B2.out.fr G4.out (fun h => h)).c
            go_wp2_with (first
              | (go_at_call 37; refine (TOP.out _ G4.out).mono ?_; rintro e x5 ⟨rfl, f5⟩)
              | go_in)
            go_ret
            exact ⟨rfl, (F2.out.trans G4.out).trans f5⟩
          · have htI : ¬ (o.t.size : Int) ≤ 12 := by omega
            clear hs ht
            go_wp2_with (first
              | (go_at_call 37; refine (TOP.out _ (Fr.refl _ _)).mono ?_; rintro e x5 ⟨rfl, f5⟩)
              | go_in)
            go_ret
            exact ⟨rfl, F2.out.trans f5⟩
        · have hsI : ¬ (o.s.size : Int) ≤ 12 := by omega
          clear hs
          go_wp2_with (first
            | (go_at_call 37; refine (TOP.out _ (Fr.refl _ _)).mono ?_; rintro e x5 ⟨rfl, f5⟩)
            | go_in)
          go_ret
          exact ⟨rfl, F2.out.trans f5⟩

end Go.Proofs.Qxb6500450a
