/- Keeps: the walk over the real query and the twin index. -/
import Derived.Test.Qxb6500450aRKept
import Derived.Test.Qxb6500450aQExam
namespace Go.Proofs.Qxb6500450a
open Go Go.RowKit
set_option maxRecDepth 100000
set_option maxHeartbeats 8000000
set_option linter.unusedSimpArgs false
set_option linter.unusedVariables false

/-- The query over its index, the twin index, their boxes. -/
structure Kq (w0 w : World) (F G : Nat → Prop) (bX bS bQ bT bU pb pt : Nat) (f : DocF) (r : Int → Nat) (k : Nat) : Prop where
  q : QR bX bS w F bQ f r
  t : XR bU w G bT f r
  lF : ∀ i, F i → w0.heap.size ≤ i ∧ i < w.heap.size
  lG : ∀ i, G i → w0.heap.size ≤ i ∧ i < w.heap.size
  ap : ∀ i, F i → ¬ G i
  p0 : At w pb 0 (.pointer (some ⟨bX, 0, none⟩))
  p1 : At w pt 0 (.pointer (some ⟨bT, 0, none⟩))
  n0 : ¬ F pb ∧ ¬ G pb
  n1 : ¬ F pt ∧ ¬ G pt
  f0 : Fr (fun _ => False) w0 w
  c : ∀ j, r j ≤ k
/-- Behind Do: the query has turned, the twin not yet. -/
structure Kj (w0 w : World) (F G : Nat → Prop) (bX bS bQ bT bU pb pt : Nat) (f f' : DocF) (r r' : Int → Nat) (k : Nat) : Prop where
  q : QR bX bS w F bQ f' r'
  t : XR bU w G bT f r
  lF : ∀ i, F i → w0.heap.size ≤ i ∧ i < w.heap.size
  lG : ∀ i, G i → w0.heap.size ≤ i ∧ i < w.heap.size
  ap : ∀ i, F i → ¬ G i
  p0 : At w pb 0 (.pointer (some ⟨bX, 0, none⟩))
  p1 : At w pt 0 (.pointer (some ⟨bT, 0, none⟩))
  n0 : ¬ F pb ∧ ¬ G pb
  n1 : ¬ F pt ∧ ¬ G pt
  f0 : Fr (fun _ => False) w0 w
  c : ∀ j, r j ≤ k
section
variable {w0 w w' : World} {F G : Nat → Prop} {bX bS bQ bT bU pb pt : Nat} {f f' : DocF} {r r' : Int → Nat} {k : Nat}
theorem Kq.quiet (h : Kq w0 w F G bX bS bQ bT bU pb pt f r k) (hf : Fr (fun _ => False) w w') : Kq w0 w' F G bX bS bQ bT bU pb pt f r k :=
  ⟨h.q.frw hf (fun _ _ h => h), h.t.frw hf (fun _ _ h => h), fun i hi => ⟨(h.lF i hi).1, Nat.lt_of_lt_of_le (h.lF i hi).2 hf.size⟩, fun i hi => ⟨(h.lG i hi).1, Nat.lt_of_lt_of_le (h.lG i hi).2 hf.size⟩, h.ap, h.p0.fr hf (fun h => h), h.p1.fr hf (fun h => h), h.n0, h.n1, h.f0.trans hf, h.c⟩
theorem Kj.quiet (h : Kj w0 w F G bX bS bQ bT bU pb pt f f' r r' k) (hf : Fr (fun _ => False) w w') : Kj w0 w' F G bX bS bQ bT bU pb pt f f' r r' k :=
  ⟨h.q.frw hf (fun _ _ h => h), h.t.frw hf (fun _ _ h => h), fun i hi => ⟨(h.lF i hi).1, Nat.lt_of_lt_of_le (h.lF i hi).2 hf.size⟩, fun i hi => ⟨(h.lG i hi).1, Nat.lt_of_lt_of_le (h.lG i hi).2 hf.size⟩, h.ap, h.p0.fr hf (fun h => h), h.p1.fr hf (fun h => h), h.n0, h.n1, h.f0.trans hf, h.c⟩
theorem Kq.half (h : Kq w0 w F G bX bS bQ bT bU pb pt f r k) (hq : QR bX bS w' (grow F w w') bQ f' r') (hf : Fr F w w') : Kj w0 w' (grow F w w') G bX bS bQ bT bU pb pt f f' r r' k := by
  have z := hf.size
  have z0 := h.f0.size
  refine ⟨hq, h.t.frw hf (fun i hi c => h.ap i c hi), fun i hi => ?_, fun i hi => ⟨(h.lG i hi).1, Nat.lt_of_lt_of_le (h.lG i hi).2 z⟩, fun i hi c => ?_, h.p0.fr hf h.n0.1, h.p1.fr hf h.n1.1, ⟨fun c => ?_, h.n0.2⟩, ⟨fun c => ?_, h.n1.2⟩, h.f0.then hf (fun i hi c => by have := (h.lF i c).1; omega), h.c⟩
  · rcases hi with hi | hi
    · have := h.lF i hi; omega
    · omega
  · have := h.lG i c
    rcases hi with hi | hi
    · exact h.ap i hi c
    · omega
  · rcases c with c | c
    · exact h.n0.1 c
    · have := h.p0.lt; omega
  · rcases c with c | c
    · exact h.n1.1 c
    · have := h.p1.lt; omega
theorem Kj.full (h : Kj w0 w F G bX bS bQ bT bU pb pt f f' r r' k) (ht : XR bU w' (grow G w w') bT f' r') (hf : Fr G w w') (hc : ∀ j, r' j ≤ k + 1) : Kq w0 w' F (grow G w w') bX bS bQ bT bU pb pt f' r' (k + 1) := by
  have z := hf.size
  have z0 := h.f0.size
  refine ⟨h.q.frw hf h.ap, ht, fun i hi => ⟨(h.lF i hi).1, Nat.lt_of_lt_of_le (h.lF i hi).2 z⟩, fun i hi => ?_, fun i hi c => ?_, h.p0.fr hf h.n0.2, h.p1.fr hf h.n1.2, ⟨h.n0.1, fun c => ?_⟩, ⟨h.n1.1, fun c => ?_⟩, h.f0.then hf (fun i hi c => by have := (h.lG i c).1; omega), hc⟩
  · rcases hi with hi | hi
    · have := h.lG i hi; omega
    · omega
  · have := h.lF i hi
    rcases c with c | c
    · exact h.ap i hi c
    · omega
  · rcases c with c | c
    · exact h.n0.2 c
    · have := h.p0.lt; omega
  · rcases c with c | c
    · exact h.n1.2 c
    · have := h.p1.lt; omega
theorem Kj.same (h : Kj w0 w F G bX bS bQ bT bU pb pt f f' r r' k) (e1 : f' = f) (e2 : r' = r) : Kq w0 w F G bX bS bQ bT bU pb pt f' r' (k + 1) := by
  subst e1 e2
  exact ⟨h.q, h.t, h.lF, h.lG, h.ap, h.p0, h.p1, h.n0, h.n1, h.f0, fun j => Nat.le_succ_of_le (h.c j)⟩
end

theorem keepsUpTo_any {w : World} {a : Option Addr} {len cap : Nat} (fs : Nat → Stp) (hs : ∀ i, i < len → ∃ b off, a = some ⟨b, off, none⟩ ∧ StpAt w b (off + i * 6) (fs i)) (hlen : len ≤ 9223372036854775807) :
    Calls Try.prog 5 #[.slice a len cap] w fun e w' => e = .returned (.int .i64 (-1)) ∧ Fr (fun _ => False) w w' := by
  have hlen' : (len : Int) ≤ 9223372036854775807 := by omega
  have HS := hid hs
  clear hs
  go_enter Try.func5, Try.ntmps5
  go_wp2_with fail
  refine (examples_any _).mono ?_
  rintro e w1 ⟨rfl, f1⟩
  have F1 := hid f1
  clear f1
  go_wp2_with fail
  refine (ground_any _).mono ?_
  rintro e w2 ⟨bX, bS, rfl, hb2, xr2, f2⟩
  have fb := (Fr.refl (fun _ => False) w2).alloc (.cells #[.pointer (some ⟨bX, 0, none⟩)] 27)
  have X2 := hid (xr2.frw fb (fun _ _ h => h))
  have A2 : Hid (At (w2.alloc (.cells #[.pointer (some ⟨bX, 0, none⟩)] 27)) w2.heap.size 0 (.pointer (some ⟨bX, 0, none⟩))) := At.new w2 _ _ rfl
  have F2 := hid ((F1.out.trans f2).trans fb)
  have Z2 : Hid ((w2.alloc (.cells #[.pointer (some ⟨bX, 0, none⟩)] 27)).heap.size = w2.heap.size + 1 ∧ w.heap.size ≤ w1.heap.size ∧ w1.heap.size ≤ w2.heap.size) := ⟨by simp, F1.out.size, f2.size⟩
  clear xr2 fb f2 F1 hb2
  simp only [bwV]
  go_upto_region 4 with fail
  generalize w2.alloc (.cells #[.pointer (some ⟨bX, 0, none⟩)] 27) = w3 at *
  obtain ⟨pb, hpb⟩ : ∃ pb, pb = w2.heap.size := ⟨_, rfl⟩
  rw [← hpb] at A2 X2 Z2 ⊢
  clear hpb
  have c0 := A2.out.c
  go_wp2_with fail
  clear c0
  refine (qnew_any X2.out (fun i hi => by have := hi.2; have := Z2.out.1; omega)).mono ?_
  rintro e w4 ⟨rfl, qr, f4⟩
  have Q4 := hid (qr.wide (G := fun i => w1.heap.size ≤ i ∧ i ≠ pb ∧ i < w4.heap.size) (fun i hi => by
    have := Z2.out; have := f4.size; have := qr.lt
    rcases hi with hi | hi
    · exact ⟨hi.1, by have := hi.2; omega, by have := hi.2; omega⟩
    · exact ⟨by omega, by omega, by omega⟩))
  have F4 := hid (F2.out.trans f4)
  have A4 := hid (A2.out.fr f4 (fun h => h))
  clear qr f4 F2 A2 X2
  generalize w3.heap.size = bQ at *
  go_wp2_with fail
  refine (ground_any _).mono ?_
  rintro e w5 ⟨bT, bU, rfl, hb5, xr5, f5⟩
  simp only [bwV]
  have fb := (Fr.refl (fun _ => False) w5).alloc (.cells #[.pointer (some ⟨bT, 0, none⟩)] 27)
  have KP : Hid (Kq w (w5.alloc (.cells #[.pointer (some ⟨bT, 0, none⟩)] 27)) (fun i => w1.heap.size ≤ i ∧ i ≠ pb ∧ i < w4.heap.size) (fun i => w4.heap.size ≤ i ∧ i < w5.heap.size) bX bS bQ bT bU pb w5.heap.size noD (fun _ => 0) 0) := by
    have z5 := f5.size
    have z := Z2.out
    have zb := fb.size
    have hlb := A4.out.lt
    refine ⟨(Q4.out.frw f5 (fun _ _ h => h)).frw fb (fun _ _ h => h), xr5.frw fb (fun _ _ h => h), fun i hi => ⟨by omega, by omega⟩, fun i hi => ⟨by have := F4.out.size; omega, by omega⟩, fun i hi c => by omega, (A4.out.fr f5 (fun h => h)).fr fb (fun h => h), At.new w5 _ _ rfl, ⟨fun c => c.2.1 rfl, fun c => by omega⟩, ⟨fun c => by omega, fun c => by omega⟩, (F4.out.trans f5).trans fb, fun _ => Nat.le_refl _⟩
  clear fb xr5 f5 Q4 F4 A4 Z2 hb5
  go_upto_region 6 with fail
  generalize w5.alloc (.cells #[.pointer (some ⟨bT, 0, none⟩)] 27) = w6 at *
  generalize (fun i => w1.heap.size ≤ i ∧ i ≠ pb ∧ i < w4.heap.size) = F0 at *
  generalize (fun i => w4.heap.size ≤ i ∧ i < w5.heap.size) = G0 at *
  generalize w5.heap.size = pt at *
  go_wp2_with fail
  go_loopw [6] (fun i wr => ∃ (k : Nat) (F G : Nat → Prop) (f : DocF) (r : Int → Nat), k ≤ len ∧ i = .int .i64 k ∧ Kq w wr F G bX bS bQ bT bU pb pt f r k) (fun i _ => len - (intOf i).toNat)
  case atStart => exact ⟨0, _, _, noD, _, by omega, rfl, KP.out⟩
  case round =>
    clear KP
    obtain ⟨k, F, G, f, r, hk, rfl, hK⟩ := hrel
    have HK := hid hK
    have hk0 : (0 : Int) ≤ (k : Int) := by omega
    by_cases hlt : k < len
    rotate_left
    · have hltI : ¬ (k : Int) < (len : Int) := by omega
      clear hK
      go_wp2_with fail
      go_ret
      exact ⟨rfl, HK.out.f0⟩
    have hltI : (k : Int) < (len : Int) := by omega
    by_cases hmx : (k : Int) < 4398046511104
    rotate_left
    · clear hK
      go_wp2_with fail
      go_ret
      exact ⟨rfl, HK.out.f0⟩
    obtain ⟨b, off, hab, hst0⟩ := HS.out k hlt
    subst hab
    have HST0 := hid hst0
    have HRB : Hid (∀ j, r j < 4611686018427387904) := fun j => by have := hK.c j; omega
    have HOK := hid hK.q.ok
    clear hK hst0
    generalize fs k = o at *
    go_upto_region 9 with fail
    have HMX := hid hmx
    have HLEN := hid hlen'
    clear hmx hlen' hlen
    go_upto_region 10 with (first
      | (go_at_call 11; refine (qlen_any HK.out.q).mono ?_; rintro e x1 ⟨rfl, hx1⟩; obtain rfl := hx1.symm)
      | go_in)
    have hA := do_any HK.out.q (fun i hi => (HK.out.lF i hi).2) HRB.out o
    simp only [Stp.val, doV, ansV] at hA
    have hnn : 0 ≤ doN f o := doN_nonneg f o
    obtain ⟨ae, hae⟩ : ∃ y, y = doE f o := ⟨_, rfl⟩
    obtain ⟨an, han⟩ : ∃ y, y = doN f o := ⟨_, rfl⟩
    obtain ⟨am, ham⟩ : ∃ y, y = doM f o := ⟨_, rfl⟩
    obtain ⟨at4, has⟩ : ∃ y, y = doT f r o := ⟨_, rfl⟩
    rw [← hae, ← han, ← ham, ← has] at hA
    rw [← han] at hnn
    have HA := hid hA
    have HAE := hid hae
    have HAN := hid han
    have HAM := hid ham
    have HAS := hid has
    have hnd := nDocs_le f
    obtain ⟨was, hwas⟩ : ∃ y, y = nDocs f := ⟨_, rfl⟩
    rw [← hwas] at hnd ⊢
    have HWS := hid hwas
    clear hA hae han ham has hwas
    have hst := HST0.out.fr HK.out.f0
    obtain ⟨c0, c1, c2, c3, c4, c5⟩ := hst
    go_upto_region 11 with (first
      | (go_at_call 10; refine HA.out.mono ?_; rintro e x5 ⟨rfl, hs5, g5⟩)
      | go_in)
    clear c0 c1 c2 c3 c4 c5
    have e5 : Fr (fun _ => False) x5 (x5.alloc (.cells #[.int .i64 ae, .int .i64 an, .int .i64 am, .string at4] 35)) := (Fr.refl _ _).alloc _
    have KH6 := hid ((HK.out.half hs5 g5).quiet e5)
    have AA6 := hid (AnsAt.new x5 ae an am at4)
    have HNA : Hid (¬ G x5.heap.size) := fun c => by have := (HK.out.lG _ c).2; have := g5.size; omega
    clear e5 hs5 g5 HA HK
    generalize grow F wr x5 = F' at *
    generalize x5.alloc (.cells #[.int .i64 ae, .int .i64 an, .int .i64 am, .string at4] 35) = x6 at *
    generalize x5.heap.size = pA at *
    have q1 := AA6.out.a1.c
    have hnn2 : ¬ an < 0 := by omega
    have hst := HST0.out.fr KH6.out.f0
    obtain ⟨c0, c1, c2, c3, c4, c5⟩ := hst
    clear hnn
    go_upto_region 14 with fail
    clear q1 hnn2
    obtain ⟨bch, hbch⟩ : ∃ b, b = (o.kind == 1 || o.kind == 2 || o.kind == 3 || o.kind == 10) := ⟨_, rfl⟩
    have HBC := hid hbch
    clear hbch
    go_cut [58] (fun c wx => c = .bool bch ∧ wx = x6)
    case first =>
      have hb := HBC.out
      clear HBC
      by_cases j1 : o.kind = 1
      · have i1 : (o.kind == 1) = true := by simp [j1]
        rw [i1] at hb
        clear j1
        simp only [Bool.true_or] at hb
        subst hb
        go_wp2_with fail
        go_meet
        case rel => exact ⟨rfl, rfl⟩
      have i1 : (o.kind == 1) = false := by simp [j1]
      by_cases j2 : o.kind = 2
      · have i2 : (o.kind == 2) = true := by simp [j2]
        rw [i1, i2] at hb
        clear j2 j1
        simp only [Bool.true_or, Bool.or_true, Bool.false_or] at hb
        subst hb
        go_wp2_with fail
        go_meet
        case rel => exact ⟨rfl, rfl⟩
      have i2 : (o.kind == 2) = false := by simp [j2]
      by_cases j3 : o.kind = 3
      · have i3 : (o.kind == 3) = true := by simp [j3]
        rw [i1, i2, i3] at hb
        clear j3 j2 j1
        simp only [Bool.true_or, Bool.or_true, Bool.false_or] at hb
        subst hb
        go_wp2_with fail
        go_meet
        case rel => exact ⟨rfl, rfl⟩
      have i3 : (o.kind == 3) = false := by simp [j3]
      obtain ⟨i4, hi4⟩ : ∃ i4, i4 = (o.kind == 10) := ⟨_, rfl⟩
      rw [i1, i2, i3, ← hi4] at hb
      clear j3 j2 j1
      simp only [Bool.true_or, Bool.or_true, Bool.false_or] at hb
      subst hb
      have hi4' : (o.kind == 10) = bch := hi4.symm
      clear hi4
      go_wp2_with fail
      go_meet
      case rel => exact ⟨rfl, rfl⟩
    case rest =>
      obtain ⟨rfl, hwc⟩ := hcut
      obtain rfl := hwc.symm
      clear hwc
      go_upto_if 58 with fail
      go_cut [] (fun wx => (∃ G', Kq w wx F' G' bX bS bQ bT bU pb pt (doF f o) (doR f r o) (k + 1)) ∧ AnsAt wx pA ae an am at4)
      case first =>
        cases bch
        · have KP9 : Hid (Kq w x6 F' G bX bS bQ bT bU pb pt (doF f o) (doR f r o) (k + 1)) := by
            have hb := HBC.out
            have hn : ¬ isCh o := by
              rintro (c | c | c | c) <;> rw [c] at hb <;> simp at hb
            exact KH6.out.same (do_same (f := f) (r := r) hn).1 (do_same (f := f) (r := r) hn).2
          go_wp2_with fail
          go_meet
          case rel => exact ⟨⟨_, KP9.out⟩, AA6.out⟩
        · have HCH : Hid (isCh o) := by
            have hb := HBC.out
            simp only [Bool.true_eq, Bool.or_eq_true, beq_iff_eq] at hb
            rcases hb with ((c | c) | c) | c
            · exact .inl c
            · exact .inr (.inl c)
            · exact .inr (.inr (.inl c))
            · exact .inr (.inr (.inr c))
          have HTW : Hid (∀ V, Fr (fun _ => False) x6 V → Calls Try.prog 12 #[.agg #[.pointer (some ⟨bT, 0, none⟩)], .agg #[.int .i64 o.kind, .int .i64 o.a, .int .i64 o.b, .int .i64 o.c, .string o.s, .string o.t]] V fun e w' => e = .returned (.agg #[.int .i64 ae, .int .i64 an, .int .i64 am, .string at4]) ∧ XR bU w' (grow G V w') bT (doF f o) (doR f r o) ∧ Fr G V w') := fun V hV => by
            have := twin_any (KH6.out.t.frw hV (fun _ _ h => h)) (fun i hi => Nat.lt_of_lt_of_le (KH6.out.lG i hi).2 hV.size) HRB.out o HCH.out
            simp only [Stp.val, doV, ansV, bwV] at this
            rw [HAE.out, HAN.out, HAM.out, HAS.out]
            exact this
          have q0 := AA6.out.a0.c
          have q1 := AA6.out.a1.c
          have q2 := AA6.out.a2.c
          have q3 := AA6.out.a3.c
          have ct := KH6.out.p1.c
          have hdr := hid ((Fr.refl (fun _ => False) x6).drew)
          go_upto_region 15 with fail
          go_cut [66] (fun c wx => c = .bool false ∧ (∃ G', Kq w wx F' G' bX bS bQ bT bU pb pt (doF f o) (doR f r o) (k + 1)) ∧ AnsAt wx pA ae an am at4)
          case first =>
            go_region_with (go_at_call 12; refine (HTW.out _ (Fr.refl _ _).drew).mono ?_; rintro e x7 ⟨rfl, st7, g7⟩; have aa := (AA6.out.fr hdr.out (fun h => h)).fr g7 HNA.out; have AA7 := hid aa; have q0 := aa.a0.c; have q1 := aa.a1.c; have q2 := aa.a2.c; have q3 := aa.a3.c; have KP7 := hid ((KH6.out.quiet hdr.out).full st7 g7 (doR_le f r o KH6.out.c)); clear aa st7 g7)
            all_goals go_wp2_with fail
            all_goals go_meet
            all_goals exact ⟨rfl, ⟨_, KP7.out⟩, AA7.out⟩
          case rest =>
            obtain ⟨rfl, ⟨G', kp9⟩, aa9⟩ := hcut
            have KP9 := hid kp9
            have AA9 := hid aa9
            clear kp9 aa9 q0 q1 q2 q3 ct c0 c1 c2 c3 c4 c5
            go_wp2_with fail
            go_meet
            case rel => exact ⟨⟨_, KP9.out⟩, AA9.out⟩
      case rest =>
        obtain ⟨⟨G', kp9⟩, aa9⟩ := hcut
        have KP9 := hid kp9
        have AA9 := hid aa9
        clear kp9 aa9 KH6 AA6 HBC c0 c1 c2 c3 c4 c5 HNA
        have HR9 : Hid (∀ j, doR f r o j < 4611686018427387904) := fun j => by have := KP9.out.c j; have := HMX.out; omega
        have cb := KP9.out.p0.c
        have HL1 := low_any KP9.out.q.xr HR9.out
        simp only [bwV] at HL1
        have HL1 := hid HL1
        go_upto_region 18 with (first
          | (go_at_call 13; refine HL1.out.mono ?_; rintro e y1 ⟨rfl, h1⟩)
          | go_in)
        have KPa := hid (KP9.out.quiet h1)
        have AAa := hid (AA9.out.fr h1 (fun h => h))
        clear h1 KP9 AA9 cb HL1
        have ct := KPa.out.p1.c
        have HL2 := low_any KPa.out.t HR9.out
        simp only [bwV] at HL2
        have HL2 := hid HL2
        generalize bs (showI (doF f o) (doR f r o)) = slow at *
        go_upto_region 20 with (first
          | (go_at_call 13; refine HL2.out.mono ?_; rintro e y2 ⟨rfl, h2⟩)
          | go_in)
        have KPb := hid (KPa.out.quiet h2)
        have AAb := hid (AAa.out.fr h2 (fun h => h))
        clear h2 KPa AAa ct HL2
        have HKT : Hid (∀ V, Fr (fun _ => False) y2 V → Calls Try.prog 14 #[.agg #[.pointer (some ⟨bX, 0, none⟩)], .pointer (some ⟨bQ, 0, none⟩), .agg #[.int .i64 o.kind, .int .i64 o.a, .int .i64 o.b, .int .i64 o.c, .string o.s, .string o.t], .agg #[.int .i64 ae, .int .i64 an, .int .i64 am, .string at4], .int .i64 (was : Int)] V fun e w' => e = .returned (.bool true) ∧ Fr (fun _ => False) V w') := fun V hV => by
          have hg := gone_plain HOK.out o
          rw [← HAE.out, ← HAN.out, ← HWS.out] at hg
          have := kept_any (KPb.out.q.frw hV (fun _ _ h => h)) o ae an am at4 was hnd hg
          simp only [Stp.val, ansV, bwV] at this
          exact this
        have hst := HST0.out.fr KPb.out.f0
        obtain ⟨c0, c1, c2, c3, c4, c5⟩ := hst
        have cb := KPb.out.p0.c
        have q0 := AAb.out.a0.c
        have q1 := AAb.out.a1.c
        have q2 := AAb.out.a2.c
        have q3 := AAb.out.a3.c
        go_cut [84] (fun c wx => c = .bool false ∧ Fr (fun _ => False) y2 wx)
        case first =>
          go_region_with (go_at_call 14; refine (HKT.out _ (Fr.refl _ _).drew).mono ?_; rintro e x7 ⟨rfl, g7⟩; have G7 : Hid (Fr (fun _ => False) y2 x7) := (Fr.refl (fun _ => False) y2).drew.trans g7; clear g7)
          all_goals go_wp2_with fail
          all_goals go_meet
          all_goals exact ⟨rfl, G7.out⟩
        case rest =>
          obtain ⟨rfl, fd⟩ := hcut
          have KPc := hid (KPb.out.quiet fd)
          clear fd KPb cb c0 c1 c2 c3 c4 c5 q0 q1 q2 q3 HKT
          have hmx : (k : Int) < 4398046511104 := HMX.out
          go_wp2_with fail
          exact ⟨⟨k + 1, _, _, doF f o, _, by omega, by go_num, KPc.out⟩, by simp [intOf]; omega⟩

end Go.Proofs.Qxb6500450a
