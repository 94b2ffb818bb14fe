/- Refines: the walk over the real query and its model. -/
import Derived.Test.Qxb6500450aGreatTDoM
import Derived.Test.Qxb6500450aGreatQTwin
namespace Go.Proofs.Qxb6500450aGreat
open Go Go.RowKit
set_option maxRecDepth 100000
set_option maxHeartbeats 1600000
set_option linter.unusedSimpArgs false
set_option linter.unusedVariables false

/-- The query over its index, the model, the box of the lower layer. -/
structure Bi (w0 w : World) (F G : Nat → Prop) (bX bS bQ bY bM bV pb : Nat) (f : DocF) (r : Int → Nat) (k : Nat) : Prop where
  x : QR bX bS w F bQ f r
  y : VR bY bM w G bV f r
  lF : ∀ i, F i → w0.heap.size ≤ i ∧ i < w.heap.size
  lG : ∀ i, G i → w0.heap.size ≤ i ∧ i < w.heap.size
  ap : ∀ i, F i → ¬ G i
  p0 : At w pb 0 (.pointer (some ⟨bX, 0, none⟩))
  n0 : ¬ F pb ∧ ¬ G pb
  f0 : Fr (fun _ => False) w0 w
  c : ∀ j, r j ≤ k
/-- Behind Do: the query has turned, the model not yet. -/
structure Bj (w0 w : World) (F G : Nat → Prop) (bX bS bQ bY bM bV pb : Nat) (f f' : DocF) (r r' : Int → Nat) (k : Nat) : Prop where
  x : QR bX bS w F bQ f' r'
  y : VR bY bM w G bV f r
  lF : ∀ i, F i → w0.heap.size ≤ i ∧ i < w.heap.size
  lG : ∀ i, G i → w0.heap.size ≤ i ∧ i < w.heap.size
  ap : ∀ i, F i → ¬ G i
  p0 : At w pb 0 (.pointer (some ⟨bX, 0, none⟩))
  n0 : ¬ F pb ∧ ¬ G pb
  f0 : Fr (fun _ => False) w0 w
  c : ∀ j, r j ≤ k
section
variable {w0 w w' : World} {F G : Nat → Prop} {bX bS bQ bY bM bV pb : Nat} {f f' : DocF} {r r' : Int → Nat} {k : Nat}
theorem Bi.quiet (h : Bi w0 w F G bX bS bQ bY bM bV pb f r k) (hf : Fr (fun _ => False) w w') : Bi w0 w' F G bX bS bQ bY bM bV pb f r k :=
  ⟨h.x.frw hf (fun _ _ h => h), h.y.frw hf (fun _ _ h => h), fun i hi => ⟨(h.lF i hi).1, Nat.lt_of_lt_of_le (h.lF i hi).2 hf.size⟩, fun i hi => ⟨(h.lG i hi).1, Nat.lt_of_lt_of_le (h.lG i hi).2 hf.size⟩, h.ap, h.p0.fr hf (fun h => h), h.n0, h.f0.trans hf, h.c⟩
theorem Bj.quiet (h : Bj w0 w F G bX bS bQ bY bM bV pb f f' r r' k) (hf : Fr (fun _ => False) w w') : Bj w0 w' F G bX bS bQ bY bM bV pb f f' r r' k :=
  ⟨h.x.frw hf (fun _ _ h => h), h.y.frw hf (fun _ _ h => h), fun i hi => ⟨(h.lF i hi).1, Nat.lt_of_lt_of_le (h.lF i hi).2 hf.size⟩, fun i hi => ⟨(h.lG i hi).1, Nat.lt_of_lt_of_le (h.lG i hi).2 hf.size⟩, h.ap, h.p0.fr hf (fun h => h), h.n0, h.f0.trans hf, h.c⟩
/-- Behind a question to the model. -/
theorem Bi.askd (h : Bi w0 w F G bX bS bQ bY bM bV pb f r k) (hy : VR bY bM w' G bV f r) (hf : Fr G w w') : Bi w0 w' F G bX bS bQ bY bM bV pb f r k :=
  ⟨h.x.frw hf h.ap, hy, fun i hi => ⟨(h.lF i hi).1, Nat.lt_of_lt_of_le (h.lF i hi).2 hf.size⟩, fun i hi => ⟨(h.lG i hi).1, Nat.lt_of_lt_of_le (h.lG i hi).2 hf.size⟩, h.ap, h.p0.fr hf h.n0.2, h.n0, h.f0.then hf (fun i hi c => by have := (h.lG i c).1; omega), h.c⟩
theorem Bi.half (h : Bi w0 w F G bX bS bQ bY bM bV pb f r k) (hx : QR bX bS w' (grow F w w') bQ f' r') (hf : Fr F w w') : Bj w0 w' (grow F w w') G bX bS bQ bY bM bV pb f f' r r' k := by
  have z := hf.size
  have z0 := h.f0.size
  refine ⟨hx, h.y.frw hf (fun i hi c => h.ap i c hi), fun i hi => ?_, fun i hi => ⟨(h.lG i hi).1, Nat.lt_of_lt_of_le (h.lG i hi).2 z⟩, fun i hi c => ?_, h.p0.fr hf h.n0.1, ⟨fun c => ?_, h.n0.2⟩, h.f0.then hf (fun i hi c => by have := (h.lF i c).1; omega), h.c⟩
  · rcases hi with hi | hi
    · have := h.lF i hi; omega
    · omega
  · have := h.lG i c
    rcases hi with hi | hi
    · exact h.ap i hi c
    · omega
  · rcases c with c | c
    · exact h.n0.1 c
    · have := h.p0.lt; omega
theorem Bj.full (h : Bj w0 w F G bX bS bQ bY bM bV pb f f' r r' k) (hy : VR bY bM w' (grow G w w') bV f' r') (hf : Fr G w w') (hc : ∀ j, r' j ≤ k + 1) : Bi w0 w' F (grow G w w') bX bS bQ bY bM bV pb f' r' (k + 1) := by
  have z := hf.size
  have z0 := h.f0.size
  refine ⟨h.x.frw hf h.ap, hy, fun i hi => ⟨(h.lF i hi).1, Nat.lt_of_lt_of_le (h.lF i hi).2 z⟩, fun i hi => ?_, fun i hi c => ?_, h.p0.fr hf h.n0.2, ⟨h.n0.1, fun c => ?_⟩, h.f0.then hf (fun i hi c => by have := (h.lG i c).1; omega), hc⟩
  · rcases hi with hi | hi
    · have := h.lG i hi; omega
    · omega
  · have := h.lF i hi
    rcases c with c | c
    · exact h.ap i hi c
    · omega
  · rcases c with c | c
    · exact h.n0.2 c
    · have := h.p0.lt; omega
end

theorem asks_any (b : Nat) (w : World) : Calls Tryz.prog 10 #[bwV b] w fun e w' => e = .returned (.int .i64 (-1)) ∧ Fr (fun _ => False) w w' := by
  simp only [bwV]
  go_enter Tryz.func10, Tryz.ntmps10
  go_wp2_with fail
  go_ret
  exact ⟨rfl, (Fr.refl _ _).alloc _⟩
theorem mark_any (b : Nat) (w : World) : Calls Tryz.prog 12 #[bwV b] w fun e w' => e = .returned (.tuple #[]) ∧ Fr (fun _ => False) w w' := by
  simp only [bwV]
  go_enter Tryz.func12, Tryz.ntmps12
  go_wp2_with fail
  go_end0
  exact ⟨rfl, (Fr.refl _ _).alloc _⟩


theorem handed_any {bX bS bY bM bV : Nat} {w : World} {F G : Nat → Prop} {f : DocF} {r : Int → Nat} (hx : XR bS w F bX f r) (hv : VR bY bM w G bV f r) (hr : ∀ k, r k < 4611686018427387904) (o : Stp) (ae an am : Int) (as' : ByteArray) :
    Calls Tryz.prog 15 #[bwV bX, .pointer (some ⟨bV, 0, none⟩), o.val, ansV ae an am as'] w fun e w' => e = .returned (.bool true) ∧ VR bY bM w' G bV f r ∧ Fr G w w' := by
  have HR := hid hr
  have BX : Hid (∃ W pB, W = ((w.alloc (.cells #[.pointer (some ⟨bX, 0, none⟩)] 29)).alloc (.cells #[.int .i64 o.kind, .int .i64 o.a, .int .i64 o.b, .int .i64 o.c, .string o.s, .string o.t] 37)).alloc (.cells #[.int .i64 ae, .int .i64 an, .int .i64 am, .string as'] 41) ∧ pB = w.heap.size ∧ At W pB 0 (.pointer (some ⟨bX, 0, none⟩)) ∧ XR bS W F bX f r ∧ VR bY bM W G bV f r ∧ Fr (fun _ => False) w W) := by
    have fB := (Fr.refl (fun _ => False) w).alloc (.cells #[.pointer (some ⟨bX, 0, none⟩)] 29)
    have b0 : At (w.alloc (.cells #[.pointer (some ⟨bX, 0, none⟩)] 29)) w.heap.size 0 (.pointer (some ⟨bX, 0, none⟩)) := At.new w _ _ rfl
    have fO := (Fr.refl (fun _ => False) (w.alloc (.cells #[.pointer (some ⟨bX, 0, none⟩)] 29))).alloc (.cells #[.int .i64 o.kind, .int .i64 o.a, .int .i64 o.b, .int .i64 o.c, .string o.s, .string o.t] 37) |>.alloc (.cells #[.int .i64 ae, .int .i64 an, .int .i64 am, .string as'] 41)
    exact ⟨_, _, rfl, rfl, b0.fr fO (fun h => h), (hx.frw fB (fun _ _ h => h)).frw fO (fun _ _ h => h), (hv.frw fB (fun _ _ h => h)).frw fO (fun _ _ h => h), fB.trans fO⟩
  clear hx hv hr
  simp only [Stp.val, ansV, bwV]
  go_enter Tryz.func15, Tryz.ntmps15
  go_upto_region 1 with fail
  obtain ⟨W, pB, hW, hB, b0, x0, v0, f0⟩ := BX.out
  rw [← hW, ← hB]
  have B0 := hid b0
  have X0 := hid x0
  have V0 := hid v0
  have F0 := hid f0
  clear hW b0 x0 v0 f0 BX hB
  have c0 := B0.out.c
  have HAS := asks_any bX W
  simp only [bwV] at HAS
  have HAS := hid HAS
  go_upto_region 2 with (first
    | (go_at_call 10; refine HAS.out.mono ?_; rintro e w1 ⟨rfl, f1⟩)
    | go_in)
  have B1 := hid (B0.out.fr f1 (fun h => h))
  have X1 := hid (X0.out.frw f1 (fun _ _ h => h))
  have V1 := hid (V0.out.frw f1 (fun _ _ h => h))
  have F1 := hid (F0.out.trans f1)
  clear f1 HAS c0 B0 X0 V0 F0
  have c0 := B1.out.c
  have HL := low_any X1.out HR.out
  simp only [bwV] at HL
  have HL := hid HL
  go_upto_region 3 with (first
    | (go_at_call 41; refine HL.out.mono ?_; rintro e w2 ⟨rfl, f2⟩)
    | go_in)
  have V2 := hid (V1.out.frw f2 (fun _ _ h => h))
  have F2 := hid (F1.out.trans f2)
  clear f2 HL c0 B1 X1 V1 F1
  have HM := hid (vlow_any V2.out HR.out)
  generalize bs (showI f r) = s at *
  go_wp2_with (first
    | (go_at_call 42; refine HM.out.mono ?_; rintro e w3 ⟨rfl, v3, f3⟩)
    | go_in)
  go_ret
  exact ⟨rfl, v3, (F2.out.mono (fun _ _ h => h.elim)).trans f3⟩

theorem walk_any {w : World} {a : Option Addr} {len cap : Nat} (fs : Nat → Stp) (hs : ∀ i, i < len → ∃ b off, a = some ⟨b, off, none⟩ ∧ StpAt w b (off + i * 6) (fs i)) (hlen : len ≤ 9223372036854775807) (quiet : Bool) :
    Calls Tryz.prog 7 #[.slice a len cap, .bool quiet] w fun e w' => ∃ n : Int, e = .returned (.tuple #[.int .i64 (-1), .int .i64 n]) ∧ Fr (fun _ => False) w w' := by
  have hlen' : (len : Int) ≤ 9223372036854775807 := by omega
  have HS := hid hs
  clear hs
  go_enter Tryz.func7, Tryz.ntmps7
  go_wp2_with fail
  refine (ground_any _).mono ?_
  rintro e w2 ⟨bX, bS, rfl, hb2, sr2, f2⟩
  have fb := (Fr.refl (fun _ => False) w2).alloc (.cells #[.pointer (some ⟨bX, 0, none⟩)] 29)
  have S2 := hid (sr2.frw fb (fun _ _ h => h))
  have A2 : Hid (At (w2.alloc (.cells #[.pointer (some ⟨bX, 0, none⟩)] 29)) w2.heap.size 0 (.pointer (some ⟨bX, 0, none⟩))) := At.new w2 _ _ rfl
  have F2 := hid (f2.trans fb)
  have Z2 : Hid ((w2.alloc (.cells #[.pointer (some ⟨bX, 0, none⟩)] 29)).heap.size = w2.heap.size + 1 ∧ w.heap.size ≤ w2.heap.size) := ⟨by simp, f2.size⟩
  clear sr2 fb f2 hb2
  simp only [bwV]
  go_upto_region 2 with fail
  generalize w2.alloc (.cells #[.pointer (some ⟨bX, 0, none⟩)] 29) = w3 at *
  obtain ⟨pb, hpb⟩ : ∃ pb, pb = w2.heap.size := ⟨_, rfl⟩
  rw [← hpb] at A2 S2 Z2 ⊢
  clear hpb
  have c0 := A2.out.c
  go_wp2_with fail
  clear c0
  refine (qnew_any S2.out (fun i hi => by have := hi.2; have := Z2.out.1; omega)).mono ?_
  rintro e w4 ⟨rfl, qr, f4⟩
  have X4 := hid (qr.wide (G := fun i => w.heap.size ≤ i ∧ i ≠ pb ∧ i < w4.heap.size) (fun i hi => by
    have := Z2.out; have := f4.size; have := qr.lt
    rcases hi with hi | hi
    · exact ⟨hi.1, by have := hi.2; omega, by have := hi.2; omega⟩
    · exact ⟨by omega, by omega, by omega⟩))
  have F4 := hid (F2.out.trans f4)
  have A4 := hid (A2.out.fr f4 (fun h => h))
  clear qr f4 F2 A2 S2
  generalize w3.heap.size = bQ at *
  have c0 := A4.out.c
  go_wp2_with fail
  clear c0
  have HAS := asks_any bX w4
  simp only [bwV] at HAS
  refine HAS.mono ?_
  clear HAS
  rintro e w5 ⟨rfl, f5⟩
  have X5 := hid (X4.out.frw f5 (fun _ _ h => h))
  have F5 := hid (F4.out.trans f5)
  have A5 := hid (A4.out.fr f5 (fun h => h))
  have Z5 := hid f5.size
  clear f5 X4 F4 A4
  go_wp2_with fail
  refine (vnew_any _).mono ?_
  rintro e w6 ⟨bM, bY, bV, rfl, yr, f6⟩
  have KB : Hid (Bi w w6 (fun i => w.heap.size ≤ i ∧ i ≠ pb ∧ i < w4.heap.size) (fun i => w5.heap.size ≤ i ∧ i < w6.heap.size) bX bS bQ bY bM bV pb noD (fun _ => 0) 0) := by
    have z6 := f6.size
    have z5 := Z5.out
    have z := F5.out.size
    have hlb := A5.out.lt
    exact ⟨X5.out.frw f6 (fun _ _ h => h), yr, fun i hi => ⟨hi.1, by omega⟩, fun i hi => ⟨by omega, hi.2⟩, fun i hi c => by omega, A5.out.fr f6 (fun h => h), ⟨fun c => c.2.1 rfl, fun c => by omega⟩, F5.out.trans f6, fun _ => Nat.le_refl _⟩
  clear yr f6 X5 F5 A5 Z5 Z2
  generalize (fun i => w.heap.size ≤ i ∧ i ≠ pb ∧ i < w4.heap.size) = F0 at *
  generalize (fun i => w5.heap.size ≤ i ∧ i < w6.heap.size) = G0 at *
  go_wp2_with fail
  go_loopw [9] (fun i wr => ∃ (k : Nat) (F G : Nat → Prop) (f : DocF) (r : Int → Nat), k ≤ len ∧ i = .int .i64 k ∧ Bi w wr F G bX bS bQ bY bM bV pb f r k) (fun i _ => len - (intOf i).toNat)
  case atStart => exact ⟨0, _, _, noD, _, by omega, rfl, KB.out⟩
  case round =>
    clear KB
    obtain ⟨k, F, G, f, r, hk, rfl, hB⟩ := hrel
    have HB := hid hB
    have hk0 : (0 : Int) ≤ (k : Int) := by omega
    by_cases hlt : k < len
    rotate_left
    · have hltI : ¬ (k : Int) < (len : Int) := by omega
      clear hB
      by_cases hL : (len : Int) < 4398046511104
      · go_wp2_with fail
        go_ret2
        exact ⟨⟨_, rfl⟩, HB.out.f0⟩
      · go_wp2_with fail
        go_ret2
        exact ⟨⟨_, rfl⟩, HB.out.f0⟩
    have hltI : (k : Int) < (len : Int) := by omega
    by_cases hmx : (k : Int) < 4398046511104
    rotate_left
    · clear hB
      have hlL : ¬ (len : Int) < 4398046511104 := by omega
      go_wp2_with fail
      go_ret2
      exact ⟨⟨_, rfl⟩, HB.out.f0⟩
    obtain ⟨b, off, hab, hst0⟩ := HS.out k hlt
    subst hab
    have hst := hst0.fr hB.f0
    obtain ⟨c0, c1, c2, c3, c4, c5⟩ := hst
    have HRB : Hid (∀ j, r j < 4611686018427387904) := fun j => by have := hB.c j; omega
    have HR6 : Hid (∀ j, doR f r (fs k) j < 4611686018427387904) := fun j => by have := doR_le f r (fs k) hB.c j; omega
    clear hB hst0
    generalize fs k = o at *
    go_upto_region 10 with fail
    clear c0 c1 c2 c3 c4 c5
    have HPO := hid (StpAt.new wr o)
    have HB1 := hid (HB.out.quiet ((Fr.refl (fun _ => False) wr).alloc (.cells #[.int .i64 o.kind, .int .i64 o.a, .int .i64 o.b, .int .i64 o.c, .string o.s, .string o.t] 37)))
    have HPN : Hid (¬ F wr.heap.size ∧ ¬ G wr.heap.size) := ⟨fun h => by have := (HB.out.lF _ h).2; omega, fun h => by have := (HB.out.lG _ h).2; omega⟩
    generalize wr.alloc (.cells #[.int .i64 o.kind, .int .i64 o.a, .int .i64 o.b, .int .i64 o.c, .string o.s, .string o.t] 37) = x1 at *
    obtain ⟨po, hpo⟩ : ∃ po, po = wr.heap.size := ⟨_, rfl⟩
    rw [← hpo] at HPO HPN ⊢
    clear HB hpo
    have HMX := hid hmx
    have HLEN := hid hlen'
    clear hmx hlen' hlen
    have b0 := HB1.out.p0.c
    have HMK := mark_any bX x1
    simp only [bwV] at HMK
    have HMK := hid HMK
    go_wp2_with fail
    refine HMK.out.mono ?_
    rintro e x2 ⟨rfl, g2⟩
    have HB2 := hid (HB1.out.quiet g2)
    have PO2 := hid (HPO.out.fr g2)
    clear g2 HMK HB1 HPO b0
    obtain ⟨d0, d1, d2, d3, d4, d5⟩ := PO2.out
    simp only [Nat.zero_add] at d1 d2 d3 d4 d5
    go_wp2_with fail
    clear d0 d1 d2 d3 d4 d5
    have hA := do_any HB2.out.x (fun i hi => (HB2.out.lF i hi).2) HRB.out o
    simp only [Stp.val, doV, ansV] at hA
    have HA := hid hA
    clear hA
    refine HA.out.mono ?_
    rintro e x3 ⟨rfl, hs3, g3⟩
    have e3 : Fr (fun _ => False) x3 (x3.alloc (.cells #[.int .i64 (doE f o), .int .i64 (doN f o), .int .i64 (doM f o), .string (doT f r o)] 41)) := (Fr.refl _ _).alloc _
    have HJ4 := hid ((HB2.out.half hs3 g3).quiet e3)
    have PO4 := hid ((PO2.out.frS g3 HPN.out.1).fr e3)
    have AA4 := hid (AnsAt.new x3 (doE f o) (doN f o) (doM f o) (doT f r o))
    have HNA : Hid (¬ G x3.heap.size) := fun c => by have := (HB2.out.lG _ c).2; have := g3.size; omega
    clear hs3 g3 e3 HA HB2 PO2
    generalize grow F x2 x3 = F' at *
    go_upto_region 12 with fail
    generalize x3.alloc (.cells #[.int .i64 (doE f o), .int .i64 (doN f o), .int .i64 (doM f o), .string (doT f r o)] 41) = x4 at *
    generalize x3.heap.size = pA at *
    obtain ⟨d0, d1, d2, d3, d4, d5⟩ := PO4.out
    simp only [Nat.zero_add] at d1 d2 d3 d4 d5
    have hA := dom_any HJ4.out.y (fun i hi => (HJ4.out.lG i hi).2) HRB.out o
    simp only [Stp.val, doV, ansV] at hA
    have HA := hid hA
    clear hA
    go_wp2_with fail
    clear d0 d1 d2 d3 d4 d5
    refine HA.out.mono ?_
    rintro e x5 ⟨rfl, hy5, g5⟩
    have e5 : Fr (fun _ => False) x5 (x5.alloc (.cells #[.int .i64 (doE f o), .int .i64 (doN f o), .int .i64 (doM f o), .string (doT f r o)] 41)) := (Fr.refl _ _).alloc _
    have HB6 := hid ((HJ4.out.full hy5 g5 (doR_le f r o HJ4.out.c)).quiet e5)
    have PO6 := hid ((PO4.out.frS g5 HPN.out.2).fr e5)
    have AA6 := hid ((AA4.out.fr g5 HNA.out).fr e5 (fun h => h))
    have AB6 := hid (AnsAt.new x5 (doE f o) (doN f o) (doM f o) (doT f r o))
    clear hy5 g5 e5 HA HJ4 PO4 AA4
    generalize grow G x4 x5 = G' at *
    go_upto_region 13 with fail
    generalize x5.alloc (.cells #[.int .i64 (doE f o), .int .i64 (doN f o), .int .i64 (doM f o), .string (doT f r o)] 41) = x6 at *
    generalize x5.heap.size = pB at *
    have k0 := AA6.out.a0.c
    have k1 := AA6.out.a1.c
    have k2 := AA6.out.a2.c
    have k3 := AA6.out.a3.c
    have l0 := AB6.out.a0.c
    have l1 := AB6.out.a1.c
    have l2 := AB6.out.a2.c
    have l3 := AB6.out.a3.c
    obtain ⟨Fo, hFo⟩ : ∃ y, y = doF f o := ⟨_, rfl⟩
    obtain ⟨Ro, hRo⟩ : ∃ y, y = doR f r o := ⟨_, rfl⟩
    rw [← hFo, ← hRo] at HB6
    rw [← hRo] at HR6
    clear hFo hRo
    go_upto_region 15 with fail
    clear l0 l1 l2 l3
    obtain ⟨ae, hae⟩ : ∃ y, y = doE f o := ⟨_, rfl⟩
    obtain ⟨an, han⟩ : ∃ y, y = doN f o := ⟨_, rfl⟩
    obtain ⟨am, ham⟩ : ∃ y, y = doM f o := ⟨_, rfl⟩
    obtain ⟨at4, has⟩ : ∃ y, y = doT f r o := ⟨_, rfl⟩
    rw [← hae] at k0
    rw [← han] at k1
    rw [← ham] at k2
    rw [← has] at k3
    clear hae han ham has AA6 AB6
    have b0 := HB6.out.p0.c
    have HHD := handed_any HB6.out.x.xr HB6.out.y HR6.out o ae an am at4
    simp only [Stp.val, ansV, bwV] at HHD
    have HHD := hid HHD
    obtain ⟨d0, d1, d2, d3, d4, d5⟩ := PO6.out
    simp only [Nat.zero_add] at d1 d2 d3 d4 d5
    go_upto_region 17 with (first
      | (go_at_call 15; refine HHD.out.mono ?_; rintro e x7 ⟨rfl, y7, g7⟩)
      | go_in)
    have HB7 := hid (HB6.out.askd y7 g7)
    clear y7 g7 HHD HB6 PO6 b0 d0 d1 d2 d3 d4 d5 k0 k1 k2 k3
    cases quiet
    · go_upto_region 19 with (first
        | (go_at_call 16; refine (qshow_any HB7.out.x HR6.out).mono ?_; rintro e x8 ⟨rfl, g8⟩)
        | go_in)
      have HB8 := hid (HB7.out.quiet g8)
      clear g8 HB7
      have HSV := hid (vshow_any HB8.out.y HR6.out)
      generalize bs (showI Fo Ro) = sh at *
      go_upto_region 22 with (first
        | (go_at_call 17; refine HSV.out.mono ?_; rintro e x9 ⟨rfl, y9, g9⟩)
        | go_in)
      have HB9 := hid (HB8.out.askd y9 g9)
      clear y9 g9 HB8 HSV
      have hmx := HMX.out
      go_wp2_with (first
        | (go_at_call 18; refine (qcheck_any HB9.out.x).mono ?_; rintro e x10 ⟨rfl, hx10⟩; obtain rfl := hx10.symm)
        | go_in)
      exact ⟨⟨k + 1, _, _, _, _, by omega, by go_num, HB9.out⟩, by simp [intOf]; omega⟩
    · have hmx := HMX.out
      go_wp2_with fail
      exact ⟨⟨k + 1, _, _, _, _, by omega, by go_num, HB7.out⟩, by simp [intOf]; omega⟩

end Go.Proofs.Qxb6500450aGreat
