/- Keeps: the walk over the real index and the twin store. -/
import Derived.Test.Qxb6500449aNTwin
import Derived.Test.Qxb6500449aNKept
import Derived.Test.Qxb6500449aNStep
namespace Go.Proofs.Qxb6500449a
open Go Go.RowKit
set_option maxRecDepth 100000
set_option maxHeartbeats 1600000
set_option linter.unusedSimpArgs false
set_option linter.unusedVariables false

/-- The index over its store, the twin store, their boxes. -/
structure Kp (w0 w : World) (F G : Nat → Prop) (bS bX bT pb pt : Nat) (f : DocF) (r : Int → Nat) (k : Nat) : Prop where
  x : XR bS w F bX f r
  t : SR w G bT f r
  lF : ∀ i, F i → w0.heap.size ≤ i ∧ i < w.heap.size
  lG : ∀ i, G i → w0.heap.size ≤ i ∧ i < w.heap.size
  ap : ∀ i, F i → ¬ G i
  p0 : At w pb 0 (.pointer (some ⟨bS, 0, none⟩))
  p1 : At w pt 0 (.pointer (some ⟨bT, 0, none⟩))
  n0 : ¬ F pb ∧ ¬ G pb
  n1 : ¬ F pt ∧ ¬ G pt
  f0 : Fr (fun _ => False) w0 w
  c : ∀ j, r j ≤ k
section
variable {w0 w w' : World} {F G : Nat → Prop} {bS bX bT pb pt : Nat} {f f' : DocF} {r r' : Int → Nat} {k : Nat}
theorem Kp.quiet (h : Kp w0 w F G bS bX bT pb pt f r k) (hf : Fr (fun _ => False) w w') : Kp w0 w' F G bS bX bT pb pt f r k :=
  ⟨h.x.frw hf (fun _ _ h => h), h.t.frw hf (fun _ _ h => h), fun i hi => ⟨(h.lF i hi).1, Nat.lt_of_lt_of_le (h.lF i hi).2 hf.size⟩, fun i hi => ⟨(h.lG i hi).1, Nat.lt_of_lt_of_le (h.lG i hi).2 hf.size⟩, h.ap, h.p0.fr hf (fun h => h), h.p1.fr hf (fun h => h), h.n0, h.n1, h.f0.trans hf, h.c⟩
/-- Behind Do: the index has turned, the twin not yet. -/
structure Kh (w0 w : World) (F G : Nat → Prop) (bS bX bT pb pt : Nat) (f f' : DocF) (r r' : Int → Nat) (k : Nat) : Prop where
  x : XR bS w F bX f' r'
  t : SR w G bT f r
  lF : ∀ i, F i → w0.heap.size ≤ i ∧ i < w.heap.size
  lG : ∀ i, G i → w0.heap.size ≤ i ∧ i < w.heap.size
  ap : ∀ i, F i → ¬ G i
  p0 : At w pb 0 (.pointer (some ⟨bS, 0, none⟩))
  p1 : At w pt 0 (.pointer (some ⟨bT, 0, none⟩))
  n0 : ¬ F pb ∧ ¬ G pb
  n1 : ¬ F pt ∧ ¬ G pt
  f0 : Fr (fun _ => False) w0 w
  c : ∀ j, r j ≤ k
theorem Kp.half (h : Kp w0 w F G bS bX bT pb pt f r k) (hx : XR bS w' (grow F w w') bX f' r') (hf : Fr F w w') : Kh w0 w' (grow F w w') G bS bX bT pb pt f f' r r' k := by
  have z := hf.size
  have z0 := h.f0.size
  refine ⟨hx, h.t.frw hf (fun i hi c => h.ap i c hi), fun i hi => ?_, fun i hi => ⟨(h.lG i hi).1, Nat.lt_of_lt_of_le (h.lG i hi).2 z⟩, fun i hi c => ?_, h.p0.fr hf h.n0.1, h.p1.fr hf h.n1.1, ⟨fun c => ?_, h.n0.2⟩, ⟨fun c => ?_, h.n1.2⟩, h.f0.then hf (fun i hi c => by have := (h.lF i c).1; omega), h.c⟩
  · rcases hi with hi | hi
    · have := h.lF i hi; omega
    · omega
  · have := h.lG i c
    rcases hi with hi | hi
    · exact h.ap i hi c
    · omega
  · rcases c with c | c
    · exact h.n0.1 c
    · have := h.p0.lt; omega
  · rcases c with c | c
    · exact h.n1.1 c
    · have := h.p1.lt; omega
theorem Kh.quiet (h : Kh w0 w F G bS bX bT pb pt f f' r r' k) (hf : Fr (fun _ => False) w w') : Kh w0 w' F G bS bX bT pb pt f f' r r' k :=
  ⟨h.x.frw hf (fun _ _ h => h), h.t.frw hf (fun _ _ h => h), fun i hi => ⟨(h.lF i hi).1, Nat.lt_of_lt_of_le (h.lF i hi).2 hf.size⟩, fun i hi => ⟨(h.lG i hi).1, Nat.lt_of_lt_of_le (h.lG i hi).2 hf.size⟩, h.ap, h.p0.fr hf (fun h => h), h.p1.fr hf (fun h => h), h.n0, h.n1, h.f0.trans hf, h.c⟩
theorem Kh.full (h : Kh w0 w F G bS bX bT pb pt f f' r r' k) (ht : SR w' (grow G w w') bT f' r') (hf : Fr G w w') (hc : ∀ j, r' j ≤ k + 1) : Kp w0 w' F (grow G w w') bS bX bT pb pt f' r' (k + 1) := by
  have z := hf.size
  have z0 := h.f0.size
  refine ⟨h.x.frw hf h.ap, ht, fun i hi => ⟨(h.lF i hi).1, Nat.lt_of_lt_of_le (h.lF i hi).2 z⟩, fun i hi => ?_, fun i hi c => ?_, h.p0.fr hf h.n0.2, h.p1.fr hf h.n1.2, ⟨h.n0.1, fun c => ?_⟩, ⟨h.n1.1, fun c => ?_⟩, h.f0.then hf (fun i hi c => by have := (h.lG i c).1; omega), hc⟩
  · rcases hi with hi | hi
    · have := h.lG i hi; omega
    · omega
  · have := h.lF i hi
    rcases c with c | c
    · exact h.ap i hi c
    · omega
  · rcases c with c | c
    · exact h.n0.2 c
    · have := h.p0.lt; omega
  · rcases c with c | c
    · exact h.n1.2 c
    · have := h.p1.lt; omega
theorem Kh.same (h : Kh w0 w F G bS bX bT pb pt f f' r r' k) (e1 : f' = f) (e2 : r' = r) : Kp w0 w F G bS bX bT pb pt f' r' (k + 1) := by
  subst e1 e2
  exact ⟨h.x, h.t, h.lF, h.lG, h.ap, h.p0, h.p1, h.n0, h.n1, h.f0, fun j => Nat.le_succ_of_le (h.c j)⟩
end

theorem keepsUpTo_any {w : World} {a : Option Addr} {len cap : Nat} (fs : Nat → Stp) (hs : ∀ i, i < len → ∃ b off, a = some ⟨b, off, none⟩ ∧ StpAt w b (off + i * 6) (fs i)) (hlen : len ≤ 9223372036854775807) :
    Calls Try.prog 8 #[.slice a len cap] w fun e w' => e = .returned (.int .i64 (-1)) ∧ Fr (fun _ => False) w w' := by
  have hlen' : (len : Int) ≤ 9223372036854775807 := by omega
  have HS := hid hs
  clear hs
  go_enter Try.func8, Try.ntmps8
  go_wp2_with fail
  refine (examples_any _).mono ?_
  rintro e w1 ⟨rfl, f1⟩
  have F1 := hid f1
  clear f1
  go_wp2_with fail
  refine (ground_any _).mono ?_
  rintro e w2 ⟨bS, rfl, hb2, sr2, f2⟩
  have fb := (Fr.refl (fun _ => False) w2).alloc (.cells #[.pointer (some ⟨bS, 0, none⟩)] 27)
  have S2 := hid (sr2.frw fb (fun _ _ h => h))
  have A2 : Hid (At (w2.alloc (.cells #[.pointer (some ⟨bS, 0, none⟩)] 27)) w2.heap.size 0 (.pointer (some ⟨bS, 0, none⟩))) := At.new w2 _ _ rfl
  have F2 := hid ((F1.out.trans f2).trans fb)
  have Z2 : Hid ((w2.alloc (.cells #[.pointer (some ⟨bS, 0, none⟩)] 27)).heap.size = w2.heap.size + 1 ∧ w.heap.size ≤ w1.heap.size ∧ w1.heap.size ≤ w2.heap.size) := ⟨by simp, F1.out.size, f2.size⟩
  clear sr2 fb f2 F1 hb2
  simp only [bwV]
  go_upto_region 4 with fail
  generalize w2.alloc (.cells #[.pointer (some ⟨bS, 0, none⟩)] 27) = w3 at *
  obtain ⟨pb, hpb⟩ : ∃ pb, pb = w2.heap.size := ⟨_, rfl⟩
  rw [← hpb] at A2 S2 Z2 ⊢
  clear hpb
  have c0 := A2.out.c
  go_wp2_with fail
  clear c0
  refine (inew_any S2.out (fun i hi => by have := hi.2; have := Z2.out.1; omega)).mono ?_
  rintro e w4 ⟨bX, rfl, hbx, xr, f4⟩
  have X4 := hid (xr.wide (G := fun i => w1.heap.size ≤ i ∧ i ≠ pb ∧ i < w4.heap.size) (fun i hi => by
    have := Z2.out; have := f4.size
    rcases hi with hi | hi
    · exact ⟨hi.1, by have := hi.2; omega, by have := hi.2; omega⟩
    · exact ⟨by omega, by omega, by omega⟩))
  have F4 := hid (F2.out.trans f4)
  have A4 := hid (A2.out.fr f4 (fun h => h))
  clear xr f4 hbx F2 A2 S2
  go_wp2_with fail
  refine (ground_any _).mono ?_
  rintro e w5 ⟨bT, rfl, hb5, sr5, f5⟩
  simp only [bwV]
  have fb := (Fr.refl (fun _ => False) w5).alloc (.cells #[.pointer (some ⟨bT, 0, none⟩)] 27)
  have KP : Hid (Kp w (w5.alloc (.cells #[.pointer (some ⟨bT, 0, none⟩)] 27)) (fun i => w1.heap.size ≤ i ∧ i ≠ pb ∧ i < w4.heap.size) (fun i => w4.heap.size ≤ i ∧ i < w5.heap.size) bS bX bT pb w5.heap.size noD (fun _ => 0) 0) := by
    have z5 := f5.size
    have z := Z2.out
    have zb := fb.size
    have hlb := A4.out.lt
    refine ⟨(X4.out.frw f5 (fun _ _ h => h)).frw fb (fun _ _ h => h), sr5.frw fb (fun _ _ h => h), fun i hi => ⟨by omega, by omega⟩, fun i hi => ⟨by have := F4.out.size; omega, by omega⟩, fun i hi c => by omega, (A4.out.fr f5 (fun h => h)).fr fb (fun h => h), At.new w5 _ _ rfl, ⟨fun c => c.2.1 rfl, fun c => by omega⟩, ⟨fun c => by omega, fun c => by omega⟩, (F4.out.trans f5).trans fb, fun _ => Nat.le_refl _⟩
  clear fb sr5 f5 X4 F4 A4 Z2 hb5
  go_upto_region 6 with fail
  generalize w5.alloc (.cells #[.pointer (some ⟨bT, 0, none⟩)] 27) = w6 at *
  generalize (fun i => w1.heap.size ≤ i ∧ i ≠ pb ∧ i < w4.heap.size) = F0 at *
  generalize (fun i => w4.heap.size ≤ i ∧ i < w5.heap.size) = G0 at *
  generalize w5.heap.size = pt at *
  go_wp2_with fail
  go_loopw [6] (fun i wr => ∃ (k : Nat) (F G : Nat → Prop) (f : DocF) (r : Int → Nat), k ≤ len ∧ i = .int .i64 k ∧ Kp w wr F G bS bX bT pb pt f r k) (fun i _ => len - (intOf i).toNat)
  case atStart => exact ⟨0, _, _, noD, _, by omega, rfl, KP.out⟩
  case round =>
    clear KP
    obtain ⟨k, F, G, f, r, hk, rfl, hK⟩ := hrel
    have HK := hid hK
    have hk0 : (0 : Int) ≤ (k : Int) := by omega
    by_cases hlt : k < len
    rotate_left
    · have hltI : ¬ (k : Int) < (len : Int) := by omega
      clear hK
      go_wp2_with fail
      go_ret
      exact ⟨rfl, HK.out.f0⟩
    have hltI : (k : Int) < (len : Int) := by omega
    by_cases hmx : (k : Int) < 4398046511104
    rotate_left
    · clear hK
      go_wp2_with fail
      go_ret
      exact ⟨rfl, HK.out.f0⟩
    obtain ⟨b, off, hab, hst0⟩ := HS.out k hlt
    subst hab
    have HST0 := hid hst0
    have hst := hst0.fr hK.f0
    obtain ⟨c0, c1, c2, c3, c4, c5⟩ := hst
    have HRB : Hid (∀ j, r j < 4611686018427387904) := fun j => by have := hK.c j; omega
    have HOK := hid hK.x.ok
    clear hK hst0
    generalize fs k = o at *
    go_upto_region 10 with fail
    clear c0 c1 c2 c3 c4 c5
    have HPO := hid (StpAt.new wr o)
    have HK1 := hid (HK.out.quiet ((Fr.refl (fun _ => False) wr).alloc (.cells #[.int .i64 o.kind, .int .i64 o.a, .int .i64 o.b, .int .i64 o.c, .string o.s, .string o.t] 40)))
    have HPN : Hid (¬ F wr.heap.size ∧ ¬ G wr.heap.size) := ⟨fun h => by have := (HK.out.lF _ h).2; omega, fun h => by have := (HK.out.lG _ h).2; omega⟩
    generalize wr.alloc (.cells #[.int .i64 o.kind, .int .i64 o.a, .int .i64 o.b, .int .i64 o.c, .string o.s, .string o.t] 40) = x1 at *
    obtain ⟨po, hpo⟩ : ∃ po, po = wr.heap.size := ⟨_, rfl⟩
    rw [← hpo] at HPO HPN ⊢
    clear HK hpo
    have HMX := hid hmx
    have HLEN := hid hlen'
    clear hmx hlen' hlen
    have HWL := hid (wordsOf_len HOK.out)
    have HWZ : Hid (∀ x ∈ wordsOf f, x.size ≤ 12) := fun x hx => (wordsOf_size HOK.out hx).2
    go_wp2_with fail
    refine (iwords_any HK1.out.x).mono ?_
    rintro e x2 ⟨v8, rfl, ow2, n2, g2⟩
    clear n2
    have HK2 := hid (HK1.out.quiet g2)
    have PO2 := hid (HPO.out.fr g2)
    have OW2 := hid ow2
    have HN8 : Hid (∀ q, v8.ownBlock = some q → ¬ F q ∧ ¬ G q) := fun q hq => ⟨fun c => by have := (ow2.lt hq).1; have := (HK1.out.lF q c).2; omega, fun c => by have := (ow2.lt hq).1; have := (HK1.out.lG q c).2; omega⟩
    have HL8 : Hid (∀ q, v8.ownBlock = some q → q < x2.heap.size) := fun q hq => (ow2.lt hq).2
    clear ow2 g2 HK1 HPO
    go_wp2_with fail
    refine (strs_any OW2.out HWZ.out (by have := HWL.out; omega)).mono ?_
    rintro e x2b ⟨rfl, hx2⟩
    obtain rfl := hx2.symm
    obtain ⟨sw, hsw⟩ : ∃ sw, sw = bs (strs (wordsOf f)) := ⟨_, rfl⟩
    have HSW := hid hsw.symm
    rw [← hsw]
    clear hsw
    obtain ⟨d0, d1, d2, d3, d4, d5⟩ := PO2.out
    simp only [Nat.zero_add] at d1 d2 d3 d4 d5
    go_wp2_with fail
    clear d0 d1 d2 d3 d4 d5
    refine (idocs_any HK2.out.x o.t).mono ?_
    rintro e x3 ⟨v3, rfl, ow3, hnl, g3⟩
    clear hnl
    obtain ⟨a3, cap3, rfl, ia3⟩ := ow3.ints (docsOf_i64 f o.t)
    have HDL := hid (docsOf_le f o.t)
    have IA3 := hid ia3
    have HK3 := hid (HK2.out.quiet g3)
    have PO3 := hid (PO2.out.fr g3)
    have OW3 := hid (OW2.out.fr g3 (fun _ _ h => h))
    have HN3 : Hid (∀ b off, a3 = some ⟨b, off, none⟩ → ¬ F b ∧ ¬ G b ∧ b < x3.heap.size) := by
      intro b off e
      subst e
      rcases ow3.empty with ⟨e', _⟩ | ⟨g, cap, e', hbb, hbl⟩
      · simp at e'
      · simp at e'
        obtain ⟨⟨rfl, rfl⟩, rfl⟩ := e'
        exact ⟨fun c => by have := (HK2.out.lF _ c).2; omega, fun c => by have := (HK2.out.lG _ c).2; omega, hbl⟩
    have HX3 : Hid (x2.heap.size ≤ x3.heap.size) := g3.size
    clear ow3 ia3 g3 HK2 PO2 OW2
    go_wp2_with fail
    refine (ints_any (l := docsOf f o.t) cap3 IA3.out (by have := HDL.out; omega)).mono ?_
    rintro e x4 ⟨rfl, g4⟩
    have IA4 := hid (IA3.out.fr g4 (fun _ _ _ h => h))
    have HK4 := hid (HK3.out.quiet g4)
    have PO4 := hid (PO3.out.fr g4)
    have OW4 := hid (OW3.out.fr g4 (fun _ _ h => h))
    have HX4 : Hid (x3.heap.size ≤ x4.heap.size) := g4.size
    clear g4 HK3 PO3 OW3 IA3
    obtain ⟨sd, hsd⟩ : ∃ sd, sd = bs (ints (docsOf f o.t)) := ⟨_, rfl⟩
    have HSD := hid hsd.symm
    rw [← hsd]
    clear hsd
    obtain ⟨d0, d1, d2, d3, d4, d5⟩ := PO4.out
    simp only [Nat.zero_add] at d1 d2 d3 d4 d5
    go_wp2_with fail
    clear d0 d1 d2 d3 d4 d5
    have hA := do_any HK4.out.x (fun i hi => (HK4.out.lF i hi).2) HRB.out o
    simp only [Stp.val, doV, ansV] at hA
    have HA := hid hA
    clear hA
    have hnn : 0 ≤ doN f o := doN_nonneg HOK.out o
    obtain ⟨ae, hae⟩ : ∃ y, y = doE f o := ⟨_, rfl⟩
    obtain ⟨an, han⟩ : ∃ y, y = doN f o := ⟨_, rfl⟩
    obtain ⟨am, ham⟩ : ∃ y, y = doM f o := ⟨_, rfl⟩
    obtain ⟨at4, has⟩ : ∃ y, y = doT f r o := ⟨_, rfl⟩
    rw [← hae, ← han, ← ham, ← has] at HA
    rw [← han] at hnn
    have HAE := hid hae
    have HAN := hid han
    have HAM := hid ham
    have HAS := hid has
    clear hae han ham has
    refine HA.out.mono ?_
    rintro e x5 ⟨rfl, hs5, g5⟩
    have KH5 := hid (HK4.out.half hs5 g5)
    have PO5 := hid (PO4.out.frS g5 HPN.out.1)
    have OW5 := hid (OW4.out.fr g5 (fun q hq => (HN8.out q hq).1))
    have IA5 := hid (IA4.out.fr g5 (fun b off e => (HN3.out b off e).1))
    have HX5 : Hid (x4.heap.size ≤ x5.heap.size) := g5.size
    clear hs5 g5 HA HK4 PO4 OW4 IA4
    have e5 : Fr (fun _ => False) x5 (x5.alloc (.cells #[.int .i64 ae, .int .i64 an, .int .i64 am, .string at4] 46)) := (Fr.refl _ _).alloc _
    have AA6 := hid (AnsAt.new x5 ae an am at4)
    have KH6 := hid (KH5.out.quiet e5)
    have PO6 := hid (PO5.out.fr e5)
    have OW6 := hid (OW5.out.fr e5 (fun _ _ h => h))
    have IA6 := hid (IA5.out.fr e5 (fun _ _ _ h => h))
    have HNA : Hid (¬ G x5.heap.size) := fun c => by have := (KH5.out.lG _ c).2; omega
    clear e5 KH5 PO5 OW5 IA5
    have q1 := AA6.out.a1.c
    obtain ⟨d0, d1, d2, d3, d4, d5⟩ := PO6.out
    simp only [Nat.zero_add] at d1 d2 d3 d4 d5
    generalize grow F x4 x5 = F' at *
    go_upto_region 15 with fail
    generalize x5.alloc (.cells #[.int .i64 ae, .int .i64 an, .int .i64 am, .string at4] 46) = x6 at *
    generalize x5.heap.size = pA at *
    have hnn2 : ¬ an < 0 := by omega
    clear hnn
    go_upto_region 17 with fail
    obtain ⟨bch, hbch⟩ : ∃ b, b = (o.kind == 1 || o.kind == 2 || o.kind == 3 || o.kind == 12) := ⟨_, rfl⟩
    have HBC := hid hbch
    clear hbch
    go_cut [69] (fun c wx => c = .bool bch ∧ wx = x6)
    case first =>
      have hb := HBC.out
      clear HBC
      by_cases j1 : o.kind = 1
      · have i1 : (o.kind == 1) = true := by simp [j1]
        rw [i1] at hb
        clear j1
        simp only [Bool.true_or] at hb
        subst hb
        go_wp2_with fail
        go_meet
        case rel => exact ⟨rfl, rfl⟩
      have i1 : (o.kind == 1) = false := by simp [j1]
      by_cases j2 : o.kind = 2
      · have i2 : (o.kind == 2) = true := by simp [j2]
        rw [i1, i2] at hb
        clear j2 j1
        simp only [Bool.true_or, Bool.or_true, Bool.false_or] at hb
        subst hb
        go_wp2_with fail
        go_meet
        case rel => exact ⟨rfl, rfl⟩
      have i2 : (o.kind == 2) = false := by simp [j2]
      by_cases j3 : o.kind = 3
      · have i3 : (o.kind == 3) = true := by simp [j3]
        rw [i1, i2, i3] at hb
        clear j3 j2 j1
        simp only [Bool.true_or, Bool.or_true, Bool.false_or] at hb
        subst hb
        go_wp2_with fail
        go_meet
        case rel => exact ⟨rfl, rfl⟩
      have i3 : (o.kind == 3) = false := by simp [j3]
      obtain ⟨i4, hi4⟩ : ∃ i4, i4 = (o.kind == 12) := ⟨_, rfl⟩
      rw [i1, i2, i3, ← hi4] at hb
      clear j3 j2 j1
      simp only [Bool.true_or, Bool.or_true, Bool.false_or] at hb
      subst hb
      have hi4' : (o.kind == 12) = bch := hi4.symm
      clear hi4
      go_wp2_with fail
      go_meet
      case rel => exact ⟨rfl, rfl⟩
    case rest =>
      obtain ⟨rfl, hwc⟩ := hcut
      subst hwc
      clear q1 d0 d1 d2 d3 d4 d5
      cases bch
      · have KP9 : Hid (Kp w wc F' G bS bX bT pb pt (doF f o) (doR f r o) (k + 1)) := by
          have hb := HBC.out
          have hn : ¬ isCh o := by
            rintro (c | c | c | c) <;> rw [c] at hb <;> simp at hb
          exact KH6.out.same (do_same (f := f) (r := r) hn).1 (do_same (f := f) (r := r) hn).2
        have OW9 := OW6
        have IA9 := IA6
        clear OW6 IA6 KH6 HBC AA6 PO6
        have HR9 : Hid (∀ j, doR f r o j < 4611686018427387904) := fun j => by have := KP9.out.c j; have := HMX.out; omega
        have cb := KP9.out.p0.c
        go_wp2_with fail
        refine (low_any KP9.out.x.sr HR9.out).mono ?_
        rintro e y1 ⟨rfl, h1⟩
        have KPa := hid (KP9.out.quiet h1)
        have OWa := hid (OW9.out.fr h1 (fun _ _ h => h))
        have IAa := hid (IA9.out.fr h1 (fun _ _ _ h => h))
        clear h1 KP9 OW9 IA9 cb
        have ct := KPa.out.p1.c
        go_wp2_with fail
        refine (low_any KPa.out.t HR9.out).mono ?_
        rintro e y2 ⟨rfl, h2⟩
        have KPb := hid (KPa.out.quiet h2)
        have OWb := hid (OWa.out.fr h2 (fun _ _ h => h))
        have IAb := hid (IAa.out.fr h2 (fun _ _ _ h => h))
        clear h2 KPa OWa IAa ct
        generalize bs (showL (doF f o) (doR f r o)) = slow at *
        have hst := HST0.out.fr KPb.out.f0
        have HKT : Hid (∀ V, Fr (fun _ => False) y2 V → Calls Try.prog 24 #[.agg #[.pointer (some ⟨bS, 0, none⟩)], .pointer (some ⟨bX, 0, none⟩), .agg #[.int .i64 o.kind, .int .i64 o.a, .int .i64 o.b, .int .i64 o.c, .string o.s, .string o.t]] V fun e w' => e = .returned (.bool true) ∧ Fr (fun _ => False) V w') := fun V hV => kept_any (KPb.out.x.frw hV (fun _ _ h => h)) o
        obtain ⟨c0, c1, c2, c3, c4, c5⟩ := hst
        have cb := KPb.out.p0.c
        go_upto_region 23 with fail
        go_cut [90] (fun c wx => c = .bool false ∧ Fr (fun _ => False) y2 wx)
        case first =>
          go_region_with (go_at_call 24; refine (HKT.out _ (Fr.refl _ _).drew).mono ?_; rintro e x7 ⟨rfl, g7⟩; have G7 : Hid (Fr (fun _ => False) y2 x7) := (Fr.refl (fun _ => False) y2).drew.trans g7; clear g7)
          all_goals go_wp2_with fail
          all_goals go_meet
          all_goals exact ⟨rfl, G7.out⟩
        case rest =>
          obtain ⟨rfl, fd⟩ := hcut
          have KPc := hid (KPb.out.quiet fd)
          have OWc := hid (OWb.out.fr fd (fun _ _ h => h))
          have IAc := hid (IAb.out.fr fd (fun _ _ _ h => h))
          clear fd KPb OWb IAb cb c0 c1 c2 c3 c4 c5 HKT
          go_wp2_with fail
          have HST := strs_any OWc.out HWZ.out (by have := HWL.out; omega)
          rw [HSW.out] at HST
          refine HST.mono ?_
          clear HST
          rintro e y3 ⟨rfl, hy3⟩
          obtain rfl := hy3.symm
          go_wp2_with fail
          have HII := ints_any (l := docsOf f o.t) cap3 IAc.out (by have := HDL.out; omega)
          rw [HSD.out] at HII
          refine HII.mono ?_
          clear HII
          rintro e y4 ⟨rfl, h4⟩
          have KPd := hid (KPc.out.quiet h4)
          clear h4
          have hmx : (k : Int) < 4398046511104 := HMX.out
          go_wp2_with fail
          exact ⟨⟨k + 1, _, _, doF f o, _, by omega, by go_num, KPd.out⟩, by simp [intOf]; omega⟩
      · have HCH : Hid (isCh o) := by
          have hb := HBC.out
          simp only [Bool.true_eq, Bool.or_eq_true, beq_iff_eq] at hb
          rcases hb with ((c | c) | c) | c
          · exact .inl c
          · exact .inr (.inl c)
          · exact .inr (.inr (.inl c))
          · exact .inr (.inr (.inr c))
        have HTW : Hid (∀ V, Fr (fun _ => False) wc V → Calls Try.prog 22 #[.agg #[.pointer (some ⟨bT, 0, none⟩)], .agg #[.int .i64 o.kind, .int .i64 o.a, .int .i64 o.b, .int .i64 o.c, .string o.s, .string o.t]] V fun e w' => e = .returned (.agg #[.int .i64 ae, .int .i64 an, .int .i64 am, .string at4]) ∧ SR w' (grow G V w') bT (doF f o) (doR f r o) ∧ Fr G V w') := fun V hV => by
          have := twin_any (KH6.out.t.frw hV (fun _ _ h => h)) (fun i hi => Nat.lt_of_lt_of_le (KH6.out.lG i hi).2 hV.size) HRB.out o HCH.out
          simp only [Stp.val, doV, ansV, bwV] at this
          rw [HAE.out, HAN.out, HAM.out, HAS.out]
          exact this
        have q0 := AA6.out.a0.c
        have q1 := AA6.out.a1.c
        have q2 := AA6.out.a2.c
        have q3 := AA6.out.a3.c
        have ct := KH6.out.p1.c
        obtain ⟨d0, d1, d2, d3, d4, d5⟩ := PO6.out
        simp only [Nat.zero_add] at d1 d2 d3 d4 d5
        go_upto_region 18 with fail
        go_cut [74] (fun c wx => c = .bool false ∧ (∃ G', Kp w wx F' G' bS bX bT pb pt (doF f o) (doR f r o) (k + 1)) ∧ OwnS wx x1.heap.size v8 (wordsOf f) ∧ IntsAt wx a3 (docsOf f o.t))
        case first =>
          go_region_with (go_at_call 22; refine (HTW.out _ (Fr.refl _ _).drew).mono ?_; rintro e x7 ⟨rfl, st7, g7⟩; have aa := (AA6.out.fr (Fr.refl (fun _ => False) wc).drew (fun h => h)).fr g7 HNA.out; have q0 := aa.a0.c; have q1 := aa.a1.c; have q2 := aa.a2.c; have q3 := aa.a3.c; have KP7 := hid ((KH6.out.quiet (Fr.refl (fun _ => False) wc).drew).full st7 g7 (doR_le f r o KH6.out.c)); have OW7 := hid ((OW6.out.fr (Fr.refl (fun _ => False) wc).drew (fun _ _ h => h)).fr g7 (fun q hq => (HN8.out q hq).2)); have IA7 := hid ((IA6.out.fr (Fr.refl (fun _ => False) wc).drew (fun _ _ _ h => h)).fr g7 (fun b off e => (HN3.out b off e).2.1)); clear st7 g7 aa)
          all_goals go_wp2_with fail
          all_goals go_meet
          all_goals exact ⟨rfl, ⟨_, KP7.out⟩, OW7.out, IA7.out⟩
        case rest =>
          obtain ⟨rfl, ⟨G', kp9⟩, ow9, ia9⟩ := hcut
          have KP9 := hid kp9
          have OW9 := hid ow9
          have IA9 := hid ia9
          clear kp9 ow9 ia9 OW6 IA6 KH6 HBC AA6 PO6 q0 q1 q2 q3 ct d0 d1 d2 d3 d4 d5 HTW HCH
          have HR9 : Hid (∀ j, doR f r o j < 4611686018427387904) := fun j => by have := KP9.out.c j; have := HMX.out; omega
          have cb := KP9.out.p0.c
          go_wp2_with fail
          refine (low_any KP9.out.x.sr HR9.out).mono ?_
          rintro e y1 ⟨rfl, h1⟩
          have KPa := hid (KP9.out.quiet h1)
          have OWa := hid (OW9.out.fr h1 (fun _ _ h => h))
          have IAa := hid (IA9.out.fr h1 (fun _ _ _ h => h))
          clear h1 KP9 OW9 IA9 cb
          have ct := KPa.out.p1.c
          go_wp2_with fail
          refine (low_any KPa.out.t HR9.out).mono ?_
          rintro e y2 ⟨rfl, h2⟩
          have KPb := hid (KPa.out.quiet h2)
          have OWb := hid (OWa.out.fr h2 (fun _ _ h => h))
          have IAb := hid (IAa.out.fr h2 (fun _ _ _ h => h))
          clear h2 KPa OWa IAa ct
          generalize bs (showL (doF f o) (doR f r o)) = slow at *
          have hst := HST0.out.fr KPb.out.f0
          have HKT : Hid (∀ V, Fr (fun _ => False) y2 V → Calls Try.prog 24 #[.agg #[.pointer (some ⟨bS, 0, none⟩)], .pointer (some ⟨bX, 0, none⟩), .agg #[.int .i64 o.kind, .int .i64 o.a, .int .i64 o.b, .int .i64 o.c, .string o.s, .string o.t]] V fun e w' => e = .returned (.bool true) ∧ Fr (fun _ => False) V w') := fun V hV => kept_any (KPb.out.x.frw hV (fun _ _ h => h)) o
          obtain ⟨c0, c1, c2, c3, c4, c5⟩ := hst
          have cb := KPb.out.p0.c
          go_upto_region 23 with fail
          go_cut [90] (fun c wx => c = .bool false ∧ Fr (fun _ => False) y2 wx)
          case first =>
            go_region_with (go_at_call 24; refine (HKT.out _ (Fr.refl _ _).drew).mono ?_; rintro e x7 ⟨rfl, g7⟩; have G7 : Hid (Fr (fun _ => False) y2 x7) := (Fr.refl (fun _ => False) y2).drew.trans g7; clear g7)
            all_goals go_wp2_with fail
            all_goals go_meet
            all_goals exact ⟨rfl, G7.out⟩
          case rest =>
            obtain ⟨rfl, fd⟩ := hcut
            have KPc := hid (KPb.out.quiet fd)
            have OWc := hid (OWb.out.fr fd (fun _ _ h => h))
            have IAc := hid (IAb.out.fr fd (fun _ _ _ h => h))
            clear fd KPb OWb IAb cb c0 c1 c2 c3 c4 c5 HKT
            go_wp2_with fail
            have HST := strs_any OWc.out HWZ.out (by have := HWL.out; omega)
            rw [HSW.out] at HST
            refine HST.mono ?_
            clear HST
            rintro e y3 ⟨rfl, hy3⟩
            obtain rfl := hy3.symm
            go_wp2_with fail
            have HII := ints_any (l := docsOf f o.t) cap3 IAc.out (by have := HDL.out; omega)
            rw [HSD.out] at HII
            refine HII.mono ?_
            clear HII
            rintro e y4 ⟨rfl, h4⟩
            have KPd := hid (KPc.out.quiet h4)
            clear h4
            have hmx : (k : Int) < 4398046511104 := HMX.out
            go_wp2_with fail
            exact ⟨⟨k + 1, _, _, doF f o, _, by omega, by go_num, KPd.out⟩, by simp [intOf]; omega⟩

end Go.Proofs.Qxb6500449a
