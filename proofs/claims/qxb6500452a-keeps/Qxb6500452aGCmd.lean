/- The gate's decoder: decode. -/
import Derived.Test.Qxb6500452aGMovs
namespace Go.Proofs.Qxb6500452a
open Go Go.RowKit
set_option maxRecDepth 100000
set_option maxHeartbeats 1600000
set_option linter.unusedSimpArgs false
set_option linter.unusedVariables false

structure Cmd where
  verb : UInt8
  m : Mv
  ms : List Mv
def decP (s : ByteArray) : Except Nat Cmd :=
  match vbP s 0 with
  | .error q => .error q
  | .ok x =>
    if x.1 = 65 then (match endP s x.2 with | .error q => .error q | .ok _ => .ok ⟨x.1, ⟨0, 0, 0⟩, []⟩)
    else if x.1 = 66 ∨ x.1 = 78 then (match digP s x.2 with | .error q => .error q | .ok y => (match endP s y.2 with | .error q => .error q | .ok _ => .ok ⟨x.1, ⟨y.1, 0, 0⟩, []⟩))
    else if x.1 = 83 then (match digP s x.2 with | .error q => .error q | .ok y => (match digP s y.2 with | .error q => .error q | .ok z => (match endP s z.2 with | .error q => .error q | .ok _ => .ok ⟨x.1, ⟨y.1, z.1, 0⟩, []⟩)))
    else if x.1 = 84 then (match movP s x.2 with | .error q => .error q | .ok y => (match endP s y.2 with | .error q => .error q | .ok _ => .ok ⟨x.1, y.1, []⟩))
    else if x.1 = 88 then (match movsP s 21 x.2 [] with | .error q => .error q | .ok y => (match endP s y.2 with | .error q => .error q | .ok _ => .ok ⟨x.1, ⟨0, 0, 0⟩, y.1⟩))
    else .error 0

theorem u8_eq {b : UInt8} {n : Nat} (hn : n < 256) : (((b.toNat : Int) == (n : Int)) = true) ↔ b = UInt8.ofNat n := by
  constructor
  · intro h
    have h' : (b.toNat : Int) = (n : Int) := by simpa using h
    apply UInt8.toNat_inj.1
    simp
    omega
  · intro h
    subst h
    simp
    omega

/-- The end of decode: the command is stored and read. -/
theorem dec_end {fn : Func} {R : Ending → World → Prop} {a : Act} {w W : World} {p2 : Nat} {y0 y1 y2 y3 y4 v0 v1 v2 v3 v4 : Value} {ms : List Mv} (hres : fn.results = #[.cell 2 59]) (ht : a.tmps.getD 2 undef = .pointer (some ⟨p2, 0, none⟩)) (hd : a.defers = [])
    (a0 : At W p2 0 y0) (a1 : At W p2 1 y1) (a2 : At W p2 2 y2) (a3 : At W p2 3 y3) (a4 : At W p2 4 y4) (hp : w.heap.size ≤ p2) (hp2 : p2 ≤ w.heap.size) (ow : OwnM W (w.heap.size + 1) v4 ms) (fr : Fr (fun _ => False) w W)
    (hR : ∀ e w', e = .returned (.agg #[v0, v1, v2, v3, v4]) → OwnM w' (w.heap.size + 1) v4 ms → Fr (fun _ => False) w w' → R e w') :
    bodyPost Try.prog fn R .ret a (((((W.setCell ⟨p2, 0, none⟩ v0).setCell ⟨p2, 1, none⟩ v1).setCell ⟨p2, 2, none⟩ v2).setCell ⟨p2, 3, none⟩ v3).setCell ⟨p2, 4, none⟩ v4) := by
  have z0 := (((((a0.same v0).other (b' := p2) (o' := 1) (by omega) v1).other (b' := p2) (o' := 2) (by omega) v2).other (b' := p2) (o' := 3) (by omega) v3).other (b' := p2) (o' := 4) (by omega) v4).c
  have z1 := (((((a1.other (b' := p2) (o' := 0) (by omega) v0).same v1).other (b' := p2) (o' := 2) (by omega) v2).other (b' := p2) (o' := 3) (by omega) v3).other (b' := p2) (o' := 4) (by omega) v4).c
  have z2 := (((((a2.other (b' := p2) (o' := 0) (by omega) v0).other (b' := p2) (o' := 1) (by omega) v1).same v2).other (b' := p2) (o' := 3) (by omega) v3).other (b' := p2) (o' := 4) (by omega) v4).c
  have z3 := (((((a3.other (b' := p2) (o' := 0) (by omega) v0).other (b' := p2) (o' := 1) (by omega) v1).other (b' := p2) (o' := 2) (by omega) v2).same v3).other (b' := p2) (o' := 4) (by omega) v4).c
  have z4 := (((((a4.other (b' := p2) (o' := 0) (by omega) v0).other (b' := p2) (o' := 1) (by omega) v1).other (b' := p2) (o' := 2) (by omega) v2).other (b' := p2) (o' := 3) (by omega) v3).same v4).c
  have ff : Fr (fun i => i = p2) W (((((W.setCell ⟨p2, 0, none⟩ v0).setCell ⟨p2, 1, none⟩ v1).setCell ⟨p2, 2, none⟩ v2).setCell ⟨p2, 3, none⟩ v3).setCell ⟨p2, 4, none⟩ v4) := (((((Fr.refl (fun i => i = p2) W).setCell (p := ⟨p2, 0, none⟩) (fun _ => rfl) _).setCell (p := ⟨p2, 1, none⟩) (fun _ => rfl) _).setCell (p := ⟨p2, 2, none⟩) (fun _ => rfl) _).setCell (p := ⟨p2, 3, none⟩) (fun _ => rfl) _).setCell (p := ⟨p2, 4, none⟩) (fun _ => rfl) _
  generalize ((((W.setCell ⟨p2, 0, none⟩ v0).setCell ⟨p2, 1, none⟩ v1).setCell ⟨p2, 2, none⟩ v2).setCell ⟨p2, 3, none⟩ v3).setCell ⟨p2, 4, none⟩ v4 = W4 at *
  have ht' : a.tmps[2]?.getD undef = .pointer (some ⟨p2, 0, none⟩) := by simpa using ht
  refine ⟨hd, _, ?_, hR _ _ rfl (ow.fr ff (fun x hx e => by have := (ow.lt hx).1; omega)) (fr.then ff (fun i hi e => by omega))⟩
  simp [results, hres, go_sem, ht', z0, z1, z2, z3, z4]

def DecPost (r : Except Nat Cmd) (w : World) (e : Ending) (w' : World) : Prop :=
  match r with
  | .ok c => ∃ v, e = .returned (.agg #[.int .u8 (c.verb.toNat : Int), .int .i64 c.m.f, .int .i64 c.m.t, .int .i64 c.m.a, v]) ∧ OwnM w' (w.heap.size + 1) v c.ms
  | .error q => e = pan q

theorem decode_any {s : ByteArray} (hs : s.size ≤ 20) (w : World) : Calls Try.prog 33 #[.string s] w fun e w' =>
    DecPost (decP s) w e w' ∧ Fr (fun _ => False) w w' := by
  go_enter Try.func33, Try.ntmps33
  go_upto_region 2 with fail
  have DC0 : Hid (DC ((w.alloc (.cells #[.int .u8 0, .int .i64 0, .int .i64 0, .int .i64 0, .slice none 0 0] 59)).alloc (.cells #[.string s, .int .i64 0] 95)) (w.heap.size + 1) s 0) := by
    have := fun q v (hv : (#[.string s, .int .i64 0] : Array Value)[q]? = some v) => At.new (w.alloc (.cells #[.int .u8 0, .int .i64 0, .int .i64 0, .int .i64 0, .slice none 0 0] 59)) #[.string s, .int .i64 0] 95 hv
    simp only [World.size_alloc] at this
    exact ⟨this 0 _ rfl, this 1 _ rfl, hs, Nat.zero_le _⟩
  have P0 : Hid (∀ q v, (#[.int .u8 0, .int .i64 0, .int .i64 0, .int .i64 0, .slice none 0 0] : Array Value)[q]? = some v → At ((w.alloc (.cells #[.int .u8 0, .int .i64 0, .int .i64 0, .int .i64 0, .slice none 0 0] 59)).alloc (.cells #[.string s, .int .i64 0] 95)) w.heap.size q v) := fun q v hv => (At.new w _ _ hv).alloc _
  have F0 : Hid (Fr (fun _ => False) w ((w.alloc (.cells #[.int .u8 0, .int .i64 0, .int .i64 0, .int .i64 0, .slice none 0 0] 59)).alloc (.cells #[.string s, .int .i64 0] 95))) := ((Fr.refl _ _).alloc _).alloc _
  generalize (w.alloc (.cells #[.int .u8 0, .int .i64 0, .int .i64 0, .int .i64 0, .slice none 0 0] 59)).alloc (.cells #[.string s, .int .i64 0] 95) = w0 at *
  obtain ⟨C, hC⟩ : ∃ C, C = w.heap.size + 1 := ⟨_, rfl⟩
  rw [← hC] at DC0 ⊢
  obtain ⟨p2, hp2⟩ : ∃ p2, p2 = w.heap.size := ⟨_, rfl⟩
  rw [← hp2] at P0 ⊢
  have HC2 : Hid (C = w.heap.size + 1 ∧ p2 = w.heap.size) := ⟨hC, hp2⟩
  clear hC hp2
  by_cases hz : 0 < s.size
  · have hvb : vbP s 0 = .ok (byU s 0, 0 + 1) := by unfold vbP; rw [if_pos hz]
    go_upto_region 3 with (first | (go_at_call 52; refine (verb_any DC0.out).mono ?_; rintro e w1 ⟨hp1, f1⟩; rw [hvb] at hp1; obtain ⟨rfl, D1⟩ := hp1; unfold bV) | fail)
    have hcz : C < w1.heap.size := D1.lt
    have HD : Hid (w.heap.size ≤ p2 ∧ p2 = w.heap.size ∧ C = w.heap.size + 1 ∧ w1.heap.size ≠ C ∧ w1.heap.size ≠ p2 ∧ C < w1.heap.size) := by have := HC2.out; exact ⟨by omega, by omega, by omega, by omega, by omega, by omega⟩
    have FA := (Fr.refl (fun _ => False) w1).alloc (.cells #[.int .u8 ((byU s 0).toNat : Int), .int .i64 0, .int .i64 0, .int .i64 0, .slice none 0 0] 59)
    have DCn := hid (D1.fr FA (fun h => h))
    have KA : Hid (∀ q v, (#[.int .u8 ((byU s 0).toNat : Int), .int .i64 0, .int .i64 0, .int .i64 0, .slice none 0 0] : Array Value)[q]? = some v → At (w1.alloc (.cells #[.int .u8 ((byU s 0).toNat : Int), .int .i64 0, .int .i64 0, .int .i64 0, .slice none 0 0] 59)) w1.heap.size q v) := fun q v hv => At.new w1 _ _ hv
    have PN := hid (fun q u hu => ((P0.out q u hu).fr f1 (by have := HC2.out; omega)).fr FA (fun h => h))
    have FN := hid ((F0.out.then f1 (fun i hi e => by have := HC2.out; omega)).trans FA)
    clear FA D1 f1 DC0 P0 F0 hcz
    generalize w1.alloc (.cells #[.int .u8 ((byU s 0).toNat : Int), .int .i64 0, .int .i64 0, .int .i64 0, .slice none 0 0] 59) = wK at *
    generalize w1.heap.size = K at *
    have kz := (KA.out 0 _ rfl).c
    by_cases h65 : byU s 0 = 65
    · have HP : Hid (decP s = (match endP s (0 + 1) with | .error q => .error q | .ok _ => .ok ⟨byU s 0, ⟨0, 0, 0⟩, []⟩)) := by
        unfold Hid decP
        rw [hvb]
        simp only
        rw [if_pos h65]
      have HB := hid h65
      have e65 : (((byU s 0).toNat : Int) == 65) = true := (u8_eq (n := 65) (by omega)).2 h65
      clear h65
      have K0 := hid (KA.out 0 _ rfl)
      have K1 := hid (KA.out 1 _ rfl)
      have K2 := hid (KA.out 2 _ rfl)
      have K3 := hid (KA.out 3 _ rfl)
      have K4 := hid (KA.out 4 _ rfl)
      rcases hen : endP s (0 + 1) with er | ⟨⟨⟩, pe⟩
      · have HE : Hid (decP s = .error er) := by
          unfold Hid
          rw [HP.out, hen]
        go_wp2_with fail
        refine (end_any DCn.out).mono ?_
        rintro e w8 ⟨hp8, f8⟩
        rw [hen] at hp8
        obtain rfl : e = pan er := hp8
        unfold pan
        go_wp2_with fail
        refine ⟨rfl, ?_, FN.out.then f8 (fun i hi e => by have := HD.out; omega)⟩
        rw [HE.out]
        rfl
      · have HE : Hid (decP s = .ok ⟨byU s 0, ⟨0, 0, 0⟩, []⟩) := by
          unfold Hid
          rw [HP.out, hen]
        go_upto_region 17 with (first | (go_at_call 56; refine (end_any DCn.out).mono ?_; rintro e w8 ⟨hp8, f8⟩; rw [hen] at hp8; obtain ⟨rfl, D8⟩ := hp8; unfold uV) | fail)
        have hd := HD.out
        have k0 := (K0.out.fr f8 (by omega)).c
        have k1 := (K1.out.fr f8 (by omega)).c
        have k2 := (K2.out.fr f8 (by omega)).c
        have k3 := (K3.out.fr f8 (by omega)).c
        have k4 := (K4.out.fr f8 (by omega)).c
        have P8 := hid (fun q u hu => (PN.out q u hu).fr f8 (by omega))
        have F8 := hid (FN.out.then f8 (fun i hi e => by omega))
        have O8 := hid ((OwnM.nil _ (w.heap.size + 1)).fr f8 (fun x hx e => by simp [Value.ownBlock] at hx))
        clear D8 f8 hd
        have y0 := (P8.out 0 _ rfl).c
        have y1 := (P8.out 1 _ rfl).c
        have y2 := (P8.out 2 _ rfl).c
        have y3 := (P8.out 3 _ rfl).c
        have y4 := (P8.out 4 _ rfl).c
        have x0 := (P8.out 0 _ rfl).f
        have x1 := (P8.out 1 _ rfl).f
        have x2 := (P8.out 2 _ rfl).f
        have x3 := (P8.out 3 _ rfl).f
        have x4 := (P8.out 4 _ rfl).f
        go_wp2_with fail
        exact dec_end Try.results33 rfl rfl (P8.out 0 _ rfl) (P8.out 1 _ rfl) (P8.out 2 _ rfl) (P8.out 3 _ rfl) (P8.out 4 _ rfl) HD.out.1 (by have := HD.out; omega) O8.out F8.out (fun e' w' h1 h2 h3 => by
          refine ⟨?_, h3⟩
          rw [HE.out]
          first
            | exact ⟨_, h1, h2⟩
            | exact ⟨_, h1.trans (by rw [HB.out]; rfl), h2⟩)
    by_cases h66 : byU s 0 = 66
    · have HQ : Hid (decP s = (match digP s (0 + 1) with | .error q => .error q | .ok y => (match endP s y.2 with | .error q => .error q | .ok _ => .ok ⟨byU s 0, ⟨y.1, 0, 0⟩, []⟩))) := by
        unfold Hid decP
        rw [hvb]
        simp only
        rw [if_neg h65, if_pos (.inl h66)]
      have e65 : (((byU s 0).toNat : Int) == 65) = false := by rcases h : (((byU s 0).toNat : Int) == 65) with _ | _; rfl; exact absurd ((u8_eq (n := 65) (by omega)).1 h) h65
      have HB := hid h66
      have e66 : (((byU s 0).toNat : Int) == 66) = true := (u8_eq (n := 66) (by omega)).2 h66
      rcases hdg : digP s (0 + 1) with er | ⟨y, py⟩
      · have HE : Hid (decP s = .error er) := by unfold Hid; rw [HQ.out, hdg]
        go_wp2_with fail
        refine (digit_any DCn.out).mono ?_
        rintro e w2 ⟨hp2, f2⟩
        rw [hdg] at hp2
        obtain rfl : e = pan er := hp2
        unfold pan
        go_wp2_with fail
        refine ⟨rfl, ?_, FN.out.then f2 (fun i hi e => by have := HD.out; omega)⟩
        rw [HE.out]
        rfl
      · have HP : Hid (decP s = (match endP s py with | .error q => .error q | .ok _ => .ok ⟨byU s 0, ⟨y, 0, 0⟩, []⟩)) := by unfold Hid; rw [HQ.out, hdg]
        go_wp2_with fail
        refine (digit_any DCn.out).mono ?_
        rintro e w2 ⟨hp2, f2⟩
        rw [hdg] at hp2
        obtain ⟨rfl, D2⟩ := hp2
        have hd := HD.out
        have K2' := hid (fun q u hu => (KA.out q u hu).fr f2 (by omega))
        have P2' := hid (fun q u hu => (PN.out q u hu).fr f2 (by omega))
        have F2' := hid (FN.out.then f2 (fun i hi e => by omega))
        have D2' := hid D2
        clear f2 D2 hd
        unfold iV
        have g1 := (K2'.out 1 _ rfl).c
        have xg1 := (K2'.out 1 _ rfl).f
        go_upto_region 16 with fail
        have hd := HD.out
        have fs : Fr (fun i => i = K) w2 (w2.setCell ⟨K, 1, none⟩ (.int .i64 y)) := (Fr.refl (fun i => i = K) w2).setCell (p := ⟨K, 1, none⟩) (fun _ => rfl) _
        have K0 := hid ((K2'.out 0 _ rfl).other (b' := K) (o' := 1) (by omega) (.int .i64 y))
        have K1 := hid ((K2'.out 1 _ rfl).same (.int .i64 y))
        have K2 := hid ((K2'.out 2 _ rfl).other (b' := K) (o' := 1) (by omega) (.int .i64 y))
        have K3 := hid ((K2'.out 3 _ rfl).other (b' := K) (o' := 1) (by omega) (.int .i64 y))
        have K4 := hid ((K2'.out 4 _ rfl).other (b' := K) (o' := 1) (by omega) (.int .i64 y))
        have DCn := hid (D2'.out.fr fs (by omega))
        have PN := hid (fun q u hu => (P2'.out q u hu).fr fs (by omega))
        have FN := hid (F2'.out.then fs (fun i hi e => by omega))
        clear g1 xg1 fs hd K2' P2' F2' D2' kz
        generalize w2.setCell ⟨K, 1, none⟩ (.int .i64 y) = w3 at *
        rcases hen : endP s (py) with er | ⟨⟨⟩, pe⟩
        · have HE : Hid (decP s = .error er) := by
            unfold Hid
            rw [HP.out, hen]
          go_wp2_with fail
          refine (end_any DCn.out).mono ?_
          rintro e w8 ⟨hp8, f8⟩
          rw [hen] at hp8
          obtain rfl : e = pan er := hp8
          unfold pan
          go_wp2_with fail
          refine ⟨rfl, ?_, FN.out.then f8 (fun i hi e => by have := HD.out; omega)⟩
          rw [HE.out]
          rfl
        · have HE : Hid (decP s = .ok ⟨byU s 0, ⟨y, 0, 0⟩, []⟩) := by
            unfold Hid
            rw [HP.out, hen]
          go_upto_region 17 with (first | (go_at_call 56; refine (end_any DCn.out).mono ?_; rintro e w8 ⟨hp8, f8⟩; rw [hen] at hp8; obtain ⟨rfl, D8⟩ := hp8; unfold uV) | fail)
          have hd := HD.out
          have k0 := (K0.out.fr f8 (by omega)).c
          have k1 := (K1.out.fr f8 (by omega)).c
          have k2 := (K2.out.fr f8 (by omega)).c
          have k3 := (K3.out.fr f8 (by omega)).c
          have k4 := (K4.out.fr f8 (by omega)).c
          have P8 := hid (fun q u hu => (PN.out q u hu).fr f8 (by omega))
          have F8 := hid (FN.out.then f8 (fun i hi e => by omega))
          have O8 := hid ((OwnM.nil _ (w.heap.size + 1)).fr f8 (fun x hx e => by simp [Value.ownBlock] at hx))
          clear D8 f8 hd
          have y0 := (P8.out 0 _ rfl).c
          have y1 := (P8.out 1 _ rfl).c
          have y2 := (P8.out 2 _ rfl).c
          have y3 := (P8.out 3 _ rfl).c
          have y4 := (P8.out 4 _ rfl).c
          have x0 := (P8.out 0 _ rfl).f
          have x1 := (P8.out 1 _ rfl).f
          have x2 := (P8.out 2 _ rfl).f
          have x3 := (P8.out 3 _ rfl).f
          have x4 := (P8.out 4 _ rfl).f
          go_wp2_with fail
          exact dec_end Try.results33 rfl rfl (P8.out 0 _ rfl) (P8.out 1 _ rfl) (P8.out 2 _ rfl) (P8.out 3 _ rfl) (P8.out 4 _ rfl) HD.out.1 (by have := HD.out; omega) O8.out F8.out (fun e' w' h1 h2 h3 => by
            refine ⟨?_, h3⟩
            rw [HE.out]
            first
              | exact ⟨_, h1, h2⟩
              | exact ⟨_, h1.trans (by rw [HB.out]; rfl), h2⟩)
    by_cases h78 : byU s 0 = 78
    · have HQ : Hid (decP s = (match digP s (0 + 1) with | .error q => .error q | .ok y => (match endP s y.2 with | .error q => .error q | .ok _ => .ok ⟨byU s 0, ⟨y.1, 0, 0⟩, []⟩))) := by
        unfold Hid decP
        rw [hvb]
        simp only
        rw [if_neg h65, if_pos (.inr h78)]
      have e65 : (((byU s 0).toNat : Int) == 65) = false := by rcases h : (((byU s 0).toNat : Int) == 65) with _ | _; rfl; exact absurd ((u8_eq (n := 65) (by omega)).1 h) h65
      have e66 : (((byU s 0).toNat : Int) == 66) = false := by rcases h : (((byU s 0).toNat : Int) == 66) with _ | _; rfl; exact absurd ((u8_eq (n := 66) (by omega)).1 h) h66
      have HB := hid h78
      have e78 : (((byU s 0).toNat : Int) == 78) = true := (u8_eq (n := 78) (by omega)).2 h78
      rcases hdg : digP s (0 + 1) with er | ⟨y, py⟩
      · have HE : Hid (decP s = .error er) := by unfold Hid; rw [HQ.out, hdg]
        go_wp2_with fail
        refine (digit_any DCn.out).mono ?_
        rintro e w2 ⟨hp2, f2⟩
        rw [hdg] at hp2
        obtain rfl : e = pan er := hp2
        unfold pan
        go_wp2_with fail
        refine ⟨rfl, ?_, FN.out.then f2 (fun i hi e => by have := HD.out; omega)⟩
        rw [HE.out]
        rfl
      · have HP : Hid (decP s = (match endP s py with | .error q => .error q | .ok _ => .ok ⟨byU s 0, ⟨y, 0, 0⟩, []⟩)) := by unfold Hid; rw [HQ.out, hdg]
        go_wp2_with fail
        refine (digit_any DCn.out).mono ?_
        rintro e w2 ⟨hp2, f2⟩
        rw [hdg] at hp2
        obtain ⟨rfl, D2⟩ := hp2
        have hd := HD.out
        have K2' := hid (fun q u hu => (KA.out q u hu).fr f2 (by omega))
        have P2' := hid (fun q u hu => (PN.out q u hu).fr f2 (by omega))
        have F2' := hid (FN.out.then f2 (fun i hi e => by omega))
        have D2' := hid D2
        clear f2 D2 hd
        unfold iV
        have g1 := (K2'.out 1 _ rfl).c
        have xg1 := (K2'.out 1 _ rfl).f
        go_upto_region 16 with fail
        have hd := HD.out
        have fs : Fr (fun i => i = K) w2 (w2.setCell ⟨K, 1, none⟩ (.int .i64 y)) := (Fr.refl (fun i => i = K) w2).setCell (p := ⟨K, 1, none⟩) (fun _ => rfl) _
        have K0 := hid ((K2'.out 0 _ rfl).other (b' := K) (o' := 1) (by omega) (.int .i64 y))
        have K1 := hid ((K2'.out 1 _ rfl).same (.int .i64 y))
        have K2 := hid ((K2'.out 2 _ rfl).other (b' := K) (o' := 1) (by omega) (.int .i64 y))
        have K3 := hid ((K2'.out 3 _ rfl).other (b' := K) (o' := 1) (by omega) (.int .i64 y))
        have K4 := hid ((K2'.out 4 _ rfl).other (b' := K) (o' := 1) (by omega) (.int .i64 y))
        have DCn := hid (D2'.out.fr fs (by omega))
        have PN := hid (fun q u hu => (P2'.out q u hu).fr fs (by omega))
        have FN := hid (F2'.out.then fs (fun i hi e => by omega))
        clear g1 xg1 fs hd K2' P2' F2' D2' kz
        generalize w2.setCell ⟨K, 1, none⟩ (.int .i64 y) = w3 at *
        rcases hen : endP s (py) with er | ⟨⟨⟩, pe⟩
        · have HE : Hid (decP s = .error er) := by
            unfold Hid
            rw [HP.out, hen]
          go_wp2_with fail
          refine (end_any DCn.out).mono ?_
          rintro e w8 ⟨hp8, f8⟩
          rw [hen] at hp8
          obtain rfl : e = pan er := hp8
          unfold pan
          go_wp2_with fail
          refine ⟨rfl, ?_, FN.out.then f8 (fun i hi e => by have := HD.out; omega)⟩
          rw [HE.out]
          rfl
        · have HE : Hid (decP s = .ok ⟨byU s 0, ⟨y, 0, 0⟩, []⟩) := by
            unfold Hid
            rw [HP.out, hen]
          go_upto_region 17 with (first | (go_at_call 56; refine (end_any DCn.out).mono ?_; rintro e w8 ⟨hp8, f8⟩; rw [hen] at hp8; obtain ⟨rfl, D8⟩ := hp8; unfold uV) | fail)
          have hd := HD.out
          have k0 := (K0.out.fr f8 (by omega)).c
          have k1 := (K1.out.fr f8 (by omega)).c
          have k2 := (K2.out.fr f8 (by omega)).c
          have k3 := (K3.out.fr f8 (by omega)).c
          have k4 := (K4.out.fr f8 (by omega)).c
          have P8 := hid (fun q u hu => (PN.out q u hu).fr f8 (by omega))
          have F8 := hid (FN.out.then f8 (fun i hi e => by omega))
          have O8 := hid ((OwnM.nil _ (w.heap.size + 1)).fr f8 (fun x hx e => by simp [Value.ownBlock] at hx))
          clear D8 f8 hd
          have y0 := (P8.out 0 _ rfl).c
          have y1 := (P8.out 1 _ rfl).c
          have y2 := (P8.out 2 _ rfl).c
          have y3 := (P8.out 3 _ rfl).c
          have y4 := (P8.out 4 _ rfl).c
          have x0 := (P8.out 0 _ rfl).f
          have x1 := (P8.out 1 _ rfl).f
          have x2 := (P8.out 2 _ rfl).f
          have x3 := (P8.out 3 _ rfl).f
          have x4 := (P8.out 4 _ rfl).f
          go_wp2_with fail
          exact dec_end Try.results33 rfl rfl (P8.out 0 _ rfl) (P8.out 1 _ rfl) (P8.out 2 _ rfl) (P8.out 3 _ rfl) (P8.out 4 _ rfl) HD.out.1 (by have := HD.out; omega) O8.out F8.out (fun e' w' h1 h2 h3 => by
            refine ⟨?_, h3⟩
            rw [HE.out]
            first
              | exact ⟨_, h1, h2⟩
              | exact ⟨_, h1.trans (by rw [HB.out]; rfl), h2⟩)
    by_cases h83 : byU s 0 = 83
    · have HQ : Hid (decP s = (match digP s (0 + 1) with | .error q => .error q | .ok y => (match digP s y.2 with | .error q => .error q | .ok z => (match endP s z.2 with | .error q => .error q | .ok _ => .ok ⟨byU s 0, ⟨y.1, z.1, 0⟩, []⟩)))) := by
        unfold Hid decP
        rw [hvb]
        simp only
        rw [if_neg h65, if_neg (by intro c; rcases c with c | c; exact h66 c; exact h78 c), if_pos h83]
      have e65 : (((byU s 0).toNat : Int) == 65) = false := by rcases h : (((byU s 0).toNat : Int) == 65) with _ | _; rfl; exact absurd ((u8_eq (n := 65) (by omega)).1 h) h65
      have e66 : (((byU s 0).toNat : Int) == 66) = false := by rcases h : (((byU s 0).toNat : Int) == 66) with _ | _; rfl; exact absurd ((u8_eq (n := 66) (by omega)).1 h) h66
      have e78 : (((byU s 0).toNat : Int) == 78) = false := by rcases h : (((byU s 0).toNat : Int) == 78) with _ | _; rfl; exact absurd ((u8_eq (n := 78) (by omega)).1 h) h78
      have HB := hid h83
      have e83 : (((byU s 0).toNat : Int) == 83) = true := (u8_eq (n := 83) (by omega)).2 h83
      rcases hdg : digP s (0 + 1) with er | ⟨y, py⟩
      · have HE : Hid (decP s = .error er) := by unfold Hid; rw [HQ.out, hdg]
        go_wp2_with fail
        refine (digit_any DCn.out).mono ?_
        rintro e wE ⟨hpE, fE⟩
        rw [hdg] at hpE
        obtain rfl : e = pan er := hpE
        unfold pan
        go_wp2_with fail
        refine ⟨rfl, ?_, FN.out.then fE (fun i hi e => by have := HD.out; omega)⟩
        rw [HE.out]
        rfl
      · go_wp2_with fail
        refine (digit_any DCn.out).mono ?_
        rintro e w2 ⟨hp2, f2⟩
        rw [hdg] at hp2
        obtain ⟨rfl, D2⟩ := hp2
        have hd := HD.out
        have KB := hid (fun q u hu => (KA.out q u hu).fr f2 (by omega))
        have P2' := hid (fun q u hu => (PN.out q u hu).fr f2 (by omega))
        have F2' := hid (FN.out.then f2 (fun i hi e => by omega))
        have D2' := hid D2
        clear f2 D2 hd
        unfold iV
        have g1 := (KB.out 1 _ rfl).c
        have xg1 := (KB.out 1 _ rfl).f
        go_upto_region 11 with fail
        have hd := HD.out
        have fs : Fr (fun i => i = K) w2 (w2.setCell ⟨K, 1, none⟩ (.int .i64 y)) := (Fr.refl (fun i => i = K) w2).setCell (p := ⟨K, 1, none⟩) (fun _ => rfl) _
        have L0 := hid ((KB.out 0 _ rfl).other (b' := K) (o' := 1) (by omega) (.int .i64 y))
        have L1 := hid ((KB.out 1 _ rfl).same (.int .i64 y))
        have L2 := hid ((KB.out 2 _ rfl).other (b' := K) (o' := 1) (by omega) (.int .i64 y))
        have L3 := hid ((KB.out 3 _ rfl).other (b' := K) (o' := 1) (by omega) (.int .i64 y))
        have L4 := hid ((KB.out 4 _ rfl).other (b' := K) (o' := 1) (by omega) (.int .i64 y))
        have D3 := hid (D2'.out.fr fs (by omega))
        have P3 := hid (fun q u hu => (P2'.out q u hu).fr fs (by omega))
        have F3 := hid (F2'.out.then fs (fun i hi e => by omega))
        clear g1 xg1 fs hd KB P2' F2' D2' kz
        generalize w2.setCell ⟨K, 1, none⟩ (.int .i64 y) = w3 at *
        rcases hdg2 : digP s py with er | ⟨z, pz⟩
        · have HE : Hid (decP s = .error er) := by unfold Hid; rw [HQ.out, hdg]; simp only; rw [hdg2]
          go_wp2_with fail
          refine (digit_any D3.out).mono ?_
          rintro e wE ⟨hpE, fE⟩
          rw [hdg2] at hpE
          obtain rfl : e = pan er := hpE
          unfold pan
          go_wp2_with fail
          refine ⟨rfl, ?_, F3.out.then fE (fun i hi e => by have := HD.out; omega)⟩
          rw [HE.out]
          rfl
        · have HP : Hid (decP s = (match endP s pz with | .error q => .error q | .ok _ => .ok ⟨byU s 0, ⟨y, z, 0⟩, []⟩)) := by unfold Hid; rw [HQ.out, hdg]; simp only; rw [hdg2]
          go_wp2_with fail
          refine (digit_any D3.out).mono ?_
          rintro e w4 ⟨hp4, f4⟩
          rw [hdg2] at hp4
          obtain ⟨rfl, D4⟩ := hp4
          have hd := HD.out
          have M0 := hid (L0.out.fr f4 (by omega))
          have M1 := hid (L1.out.fr f4 (by omega))
          have M2 := hid (L2.out.fr f4 (by omega))
          have M3 := hid (L3.out.fr f4 (by omega))
          have M4 := hid (L4.out.fr f4 (by omega))
          have P4 := hid (fun q u hu => (P3.out q u hu).fr f4 (by omega))
          have F4 := hid (F3.out.then f4 (fun i hi e => by omega))
          have D4' := hid D4
          clear f4 D4 hd L0 L1 L2 L3 L4
          unfold iV
          have g2 := M2.out.c
          have xg2 := M2.out.f
          go_upto_region 16 with fail
          have hd := HD.out
          have fs : Fr (fun i => i = K) w4 (w4.setCell ⟨K, 2, none⟩ (.int .i64 z)) := (Fr.refl (fun i => i = K) w4).setCell (p := ⟨K, 2, none⟩) (fun _ => rfl) _
          have K0 := hid (M0.out.other (b' := K) (o' := 2) (by omega) (.int .i64 z))
          have K1 := hid (M1.out.other (b' := K) (o' := 2) (by omega) (.int .i64 z))
          have K2 := hid (M2.out.same (.int .i64 z))
          have K3 := hid (M3.out.other (b' := K) (o' := 2) (by omega) (.int .i64 z))
          have K4 := hid (M4.out.other (b' := K) (o' := 2) (by omega) (.int .i64 z))
          have DCn := hid (D4'.out.fr fs (by omega))
          have PN := hid (fun q u hu => (P4.out q u hu).fr fs (by omega))
          have FN := hid (F4.out.then fs (fun i hi e => by omega))
          clear g2 xg2 fs hd M0 M1 M2 M3 M4 P4 F4 D4'
          generalize w4.setCell ⟨K, 2, none⟩ (.int .i64 z) = w5 at *
          rcases hen : endP s (pz) with er | ⟨⟨⟩, pe⟩
          · have HE : Hid (decP s = .error er) := by
              unfold Hid
              rw [HP.out, hen]
            go_wp2_with fail
            refine (end_any DCn.out).mono ?_
            rintro e w8 ⟨hp8, f8⟩
            rw [hen] at hp8
            obtain rfl : e = pan er := hp8
            unfold pan
            go_wp2_with fail
            refine ⟨rfl, ?_, FN.out.then f8 (fun i hi e => by have := HD.out; omega)⟩
            rw [HE.out]
            rfl
          · have HE : Hid (decP s = .ok ⟨byU s 0, ⟨y, z, 0⟩, []⟩) := by
              unfold Hid
              rw [HP.out, hen]
            go_upto_region 17 with (first | (go_at_call 56; refine (end_any DCn.out).mono ?_; rintro e w8 ⟨hp8, f8⟩; rw [hen] at hp8; obtain ⟨rfl, D8⟩ := hp8; unfold uV) | fail)
            have hd := HD.out
            have k0 := (K0.out.fr f8 (by omega)).c
            have k1 := (K1.out.fr f8 (by omega)).c
            have k2 := (K2.out.fr f8 (by omega)).c
            have k3 := (K3.out.fr f8 (by omega)).c
            have k4 := (K4.out.fr f8 (by omega)).c
            have P8 := hid (fun q u hu => (PN.out q u hu).fr f8 (by omega))
            have F8 := hid (FN.out.then f8 (fun i hi e => by omega))
            have O8 := hid ((OwnM.nil _ (w.heap.size + 1)).fr f8 (fun x hx e => by simp [Value.ownBlock] at hx))
            clear D8 f8 hd
            have y0 := (P8.out 0 _ rfl).c
            have y1 := (P8.out 1 _ rfl).c
            have y2 := (P8.out 2 _ rfl).c
            have y3 := (P8.out 3 _ rfl).c
            have y4 := (P8.out 4 _ rfl).c
            have x0 := (P8.out 0 _ rfl).f
            have x1 := (P8.out 1 _ rfl).f
            have x2 := (P8.out 2 _ rfl).f
            have x3 := (P8.out 3 _ rfl).f
            have x4 := (P8.out 4 _ rfl).f
            go_wp2_with fail
            exact dec_end Try.results33 rfl rfl (P8.out 0 _ rfl) (P8.out 1 _ rfl) (P8.out 2 _ rfl) (P8.out 3 _ rfl) (P8.out 4 _ rfl) HD.out.1 (by have := HD.out; omega) O8.out F8.out (fun e' w' h1 h2 h3 => by
              refine ⟨?_, h3⟩
              rw [HE.out]
              first
                | exact ⟨_, h1, h2⟩
                | exact ⟨_, h1.trans (by rw [HB.out]; rfl), h2⟩)
    by_cases h84 : byU s 0 = 84
    · have HQ : Hid (decP s = (match movP s (0 + 1) with | .error q => .error q | .ok y => (match endP s y.2 with | .error q => .error q | .ok _ => .ok ⟨byU s 0, y.1, []⟩))) := by
        unfold Hid decP
        rw [hvb]
        simp only
        rw [if_neg h65, if_neg (by intro c; rcases c with c | c; exact h66 c; exact h78 c), if_neg h83, if_pos h84]
      have e65 : (((byU s 0).toNat : Int) == 65) = false := by rcases h : (((byU s 0).toNat : Int) == 65) with _ | _; rfl; exact absurd ((u8_eq (n := 65) (by omega)).1 h) h65
      have e66 : (((byU s 0).toNat : Int) == 66) = false := by rcases h : (((byU s 0).toNat : Int) == 66) with _ | _; rfl; exact absurd ((u8_eq (n := 66) (by omega)).1 h) h66
      have e78 : (((byU s 0).toNat : Int) == 78) = false := by rcases h : (((byU s 0).toNat : Int) == 78) with _ | _; rfl; exact absurd ((u8_eq (n := 78) (by omega)).1 h) h78
      have e83 : (((byU s 0).toNat : Int) == 83) = false := by rcases h : (((byU s 0).toNat : Int) == 83) with _ | _; rfl; exact absurd ((u8_eq (n := 83) (by omega)).1 h) h83
      have HB := hid h84
      have e84 : (((byU s 0).toNat : Int) == 84) = true := (u8_eq (n := 84) (by omega)).2 h84
      rcases hdg : movP s (0 + 1) with er | ⟨y, py⟩
      · have HE : Hid (decP s = .error er) := by unfold Hid; rw [HQ.out, hdg]
        go_wp2_with fail
        refine (move_any DCn.out).mono ?_
        rintro e wE ⟨hpE, fE⟩
        rw [hdg] at hpE
        obtain rfl : e = pan er := hpE
        unfold pan
        go_wp2_with fail
        refine ⟨rfl, ?_, FN.out.then fE (fun i hi e => by have := HD.out; omega)⟩
        rw [HE.out]
        rfl
      · have HP : Hid (decP s = (match endP s py with | .error q => .error q | .ok _ => .ok ⟨byU s 0, ⟨y.f, y.t, y.a⟩, []⟩)) := by unfold Hid; rw [HQ.out, hdg]
        go_wp2_with fail
        refine (move_any DCn.out).mono ?_
        rintro e w2 ⟨hp2, f2⟩
        rw [hdg] at hp2
        obtain ⟨rfl, D2⟩ := hp2
        have hd := HD.out
        have KB := hid (fun q u hu => (KA.out q u hu).fr f2 (by omega))
        have P2' := hid (fun q u hu => (PN.out q u hu).fr f2 (by omega))
        have F2' := hid (FN.out.then f2 (fun i hi e => by omega))
        have D2' := hid D2
        clear f2 D2 hd
        simp only [Mv.val]
        have g1 := (KB.out 1 _ rfl).c
        have xg1 := (KB.out 1 _ rfl).f
        have g2 := (KB.out 2 _ rfl).c
        have xg2 := (KB.out 2 _ rfl).f
        have g3 := (KB.out 3 _ rfl).c
        have xg3 := (KB.out 3 _ rfl).f
        go_upto_region 16 with fail
        have hd := HD.out
        have fs : Fr (fun i => i = K) w2 (((w2.setCell ⟨K, 1, none⟩ (.int .i64 y.f)).setCell ⟨K, 2, none⟩ (.int .i64 y.t)).setCell ⟨K, 3, none⟩ (.int .i64 y.a)) := (((Fr.refl (fun i => i = K) w2).setCell (p := ⟨K, 1, none⟩) (fun _ => rfl) _).setCell (p := ⟨K, 2, none⟩) (fun _ => rfl) _).setCell (p := ⟨K, 3, none⟩) (fun _ => rfl) _
        have K0 := hid ((((KB.out 0 _ rfl).other (b' := K) (o' := 1) (by omega) (.int .i64 y.f)).other (b' := K) (o' := 2) (by omega) (.int .i64 y.t)).other (b' := K) (o' := 3) (by omega) (.int .i64 y.a))
        have K1 := hid ((((KB.out 1 _ rfl).same (.int .i64 y.f)).other (b' := K) (o' := 2) (by omega) (.int .i64 y.t)).other (b' := K) (o' := 3) (by omega) (.int .i64 y.a))
        have K2 := hid ((((KB.out 2 _ rfl).other (b' := K) (o' := 1) (by omega) (.int .i64 y.f)).same (.int .i64 y.t)).other (b' := K) (o' := 3) (by omega) (.int .i64 y.a))
        have K3 := hid ((((KB.out 3 _ rfl).other (b' := K) (o' := 1) (by omega) (.int .i64 y.f)).other (b' := K) (o' := 2) (by omega) (.int .i64 y.t)).same (.int .i64 y.a))
        have K4 := hid ((((KB.out 4 _ rfl).other (b' := K) (o' := 1) (by omega) (.int .i64 y.f)).other (b' := K) (o' := 2) (by omega) (.int .i64 y.t)).other (b' := K) (o' := 3) (by omega) (.int .i64 y.a))
        have DCn := hid (D2'.out.fr fs (by omega))
        have PN := hid (fun q u hu => (P2'.out q u hu).fr fs (by omega))
        have FN := hid (F2'.out.then fs (fun i hi e => by omega))
        clear g1 xg1 g2 xg2 g3 xg3 fs hd KB P2' F2' D2' kz
        generalize ((w2.setCell ⟨K, 1, none⟩ (.int .i64 y.f)).setCell ⟨K, 2, none⟩ (.int .i64 y.t)).setCell ⟨K, 3, none⟩ (.int .i64 y.a) = w3 at *
        rcases hen : endP s (py) with er | ⟨⟨⟩, pe⟩
        · have HE : Hid (decP s = .error er) := by
            unfold Hid
            rw [HP.out, hen]
          go_wp2_with fail
          refine (end_any DCn.out).mono ?_
          rintro e w8 ⟨hp8, f8⟩
          rw [hen] at hp8
          obtain rfl : e = pan er := hp8
          unfold pan
          go_wp2_with fail
          refine ⟨rfl, ?_, FN.out.then f8 (fun i hi e => by have := HD.out; omega)⟩
          rw [HE.out]
          rfl
        · have HE : Hid (decP s = .ok ⟨byU s 0, ⟨y.f, y.t, y.a⟩, []⟩) := by
            unfold Hid
            rw [HP.out, hen]
          go_upto_region 17 with (first | (go_at_call 56; refine (end_any DCn.out).mono ?_; rintro e w8 ⟨hp8, f8⟩; rw [hen] at hp8; obtain ⟨rfl, D8⟩ := hp8; unfold uV) | fail)
          have hd := HD.out
          have k0 := (K0.out.fr f8 (by omega)).c
          have k1 := (K1.out.fr f8 (by omega)).c
          have k2 := (K2.out.fr f8 (by omega)).c
          have k3 := (K3.out.fr f8 (by omega)).c
          have k4 := (K4.out.fr f8 (by omega)).c
          have P8 := hid (fun q u hu => (PN.out q u hu).fr f8 (by omega))
          have F8 := hid (FN.out.then f8 (fun i hi e => by omega))
          have O8 := hid ((OwnM.nil _ (w.heap.size + 1)).fr f8 (fun x hx e => by simp [Value.ownBlock] at hx))
          clear D8 f8 hd
          have y0 := (P8.out 0 _ rfl).c
          have y1 := (P8.out 1 _ rfl).c
          have y2 := (P8.out 2 _ rfl).c
          have y3 := (P8.out 3 _ rfl).c
          have y4 := (P8.out 4 _ rfl).c
          have x0 := (P8.out 0 _ rfl).f
          have x1 := (P8.out 1 _ rfl).f
          have x2 := (P8.out 2 _ rfl).f
          have x3 := (P8.out 3 _ rfl).f
          have x4 := (P8.out 4 _ rfl).f
          go_wp2_with fail
          exact dec_end Try.results33 rfl rfl (P8.out 0 _ rfl) (P8.out 1 _ rfl) (P8.out 2 _ rfl) (P8.out 3 _ rfl) (P8.out 4 _ rfl) HD.out.1 (by have := HD.out; omega) O8.out F8.out (fun e' w' h1 h2 h3 => by
            refine ⟨?_, h3⟩
            rw [HE.out]
            first
              | exact ⟨_, h1, h2⟩
              | exact ⟨_, h1.trans (by rw [HB.out]; rfl), h2⟩)
    by_cases h88 : byU s 0 = 88
    · have HQ : Hid (decP s = (match movsP s 21 (0 + 1) [] with | .error q => .error q | .ok y => (match endP s y.2 with | .error q => .error q | .ok _ => .ok ⟨byU s 0, ⟨0, 0, 0⟩, y.1⟩))) := by
        unfold Hid decP
        rw [hvb]
        simp only
        rw [if_neg h65, if_neg (by intro c; rcases c with c | c; exact h66 c; exact h78 c), if_neg h83, if_neg h84, if_pos h88]
      have e65 : (((byU s 0).toNat : Int) == 65) = false := by rcases h : (((byU s 0).toNat : Int) == 65) with _ | _; rfl; exact absurd ((u8_eq (n := 65) (by omega)).1 h) h65
      have e66 : (((byU s 0).toNat : Int) == 66) = false := by rcases h : (((byU s 0).toNat : Int) == 66) with _ | _; rfl; exact absurd ((u8_eq (n := 66) (by omega)).1 h) h66
      have e78 : (((byU s 0).toNat : Int) == 78) = false := by rcases h : (((byU s 0).toNat : Int) == 78) with _ | _; rfl; exact absurd ((u8_eq (n := 78) (by omega)).1 h) h78
      have e83 : (((byU s 0).toNat : Int) == 83) = false := by rcases h : (((byU s 0).toNat : Int) == 83) with _ | _; rfl; exact absurd ((u8_eq (n := 83) (by omega)).1 h) h83
      have e84 : (((byU s 0).toNat : Int) == 84) = false := by rcases h : (((byU s 0).toNat : Int) == 84) with _ | _; rfl; exact absurd ((u8_eq (n := 84) (by omega)).1 h) h84
      have HB := hid h88
      have e88 : (((byU s 0).toNat : Int) == 88) = true := (u8_eq (n := 88) (by omega)).2 h88
      rcases hdg : movsP s 21 (0 + 1) [] with er | ⟨y, py⟩
      · have HE : Hid (decP s = .error er) := by unfold Hid; rw [HQ.out, hdg]
        go_wp2_with fail
        refine (moves_any DCn.out).mono ?_
        rintro e wE ⟨hpE, fE⟩
        rw [hdg] at hpE
        obtain rfl : e = pan er := hpE
        unfold pan
        go_wp2_with fail
        refine ⟨rfl, ?_, FN.out.then fE (fun i hi e => by have := HD.out; omega)⟩
        rw [HE.out]
        rfl
      · have HP : Hid (decP s = (match endP s py with | .error q => .error q | .ok _ => .ok ⟨byU s 0, ⟨0, 0, 0⟩, y⟩)) := by unfold Hid; rw [HQ.out, hdg]
        have hwz : w.heap.size + 1 ≤ wK.heap.size := by have := (KA.out 0 _ rfl).lt; have := HD.out; omega
        go_wp2_with fail
        refine (moves_any DCn.out).mono ?_
        rintro e w2 ⟨hp2, f2⟩
        rw [hdg] at hp2
        obtain ⟨v, rfl, ow2, D2⟩ := hp2
        have HKW : Hid (K < wK.heap.size) := (KA.out 0 _ rfl).lt
        have ow2' := ow2.mono (base' := w.heap.size + 1 + 1) (by have := HKW.out; have := HD.out; omega)
        have hvK : ∀ x, v.ownBlock = some x → x ≠ K := fun x hx e => by have := (ow2.lt hx).1; have := HKW.out; omega
        have HVK := hid hvK
        obtain ⟨xa, cap, hv, _, _⟩ := ow2.mvs
        subst hv
        have hd := HD.out
        have KB := hid (fun q u hu => (KA.out q u hu).fr f2 (by omega))
        have P2' := hid (fun q u hu => (PN.out q u hu).fr f2 (by omega))
        have F2' := hid (FN.out.then f2 (fun i hi e => by omega))
        have D2' := hid D2
        have OW := hid ow2'
        clear f2 D2 hd ow2 ow2' hvK
        have g4 := (KB.out 4 _ rfl).c
        have xg4 := (KB.out 4 _ rfl).f
        go_upto_region 16 with fail
        have hd := HD.out
        have fs : Fr (fun i => i = K) w2 (w2.setCell ⟨K, 4, none⟩ (.slice xa y.length cap)) := (Fr.refl (fun i => i = K) w2).setCell (p := ⟨K, 4, none⟩) (fun _ => rfl) _
        have K0 := hid ((KB.out 0 _ rfl).other (b' := K) (o' := 4) (by omega) (.slice xa y.length cap))
        have K1 := hid ((KB.out 1 _ rfl).other (b' := K) (o' := 4) (by omega) (.slice xa y.length cap))
        have K2 := hid ((KB.out 2 _ rfl).other (b' := K) (o' := 4) (by omega) (.slice xa y.length cap))
        have K3 := hid ((KB.out 3 _ rfl).other (b' := K) (o' := 4) (by omega) (.slice xa y.length cap))
        have K4 := hid ((KB.out 4 _ rfl).same (.slice xa y.length cap))
        have DCn := hid (D2'.out.fr fs (by omega))
        have PN := hid (fun q u hu => (P2'.out q u hu).fr fs (by omega))
        have FN := hid (F2'.out.then fs (fun i hi e => by omega))
        have ON := hid ((OW.out.fr fs (fun x hx e => HVK.out x hx e)).mono (base' := w.heap.size + 1) (by omega))
        have HD2 : Hid (∀ x, (Value.slice xa y.length cap).ownBlock = some x → x ≠ C) := fun x hx e => by have := (OW.out.lt hx).1; omega
        clear g4 xg4 fs hd KB P2' F2' D2' kz
        generalize w2.setCell ⟨K, 4, none⟩ (.slice xa y.length cap) = w3 at *
        rcases hen : endP s (py) with er | ⟨⟨⟩, pe⟩
        · have HE : Hid (decP s = .error er) := by
            unfold Hid
            rw [HP.out, hen]
          go_wp2_with fail
          refine (end_any DCn.out).mono ?_
          rintro e w8 ⟨hp8, f8⟩
          rw [hen] at hp8
          obtain rfl : e = pan er := hp8
          unfold pan
          go_wp2_with fail
          refine ⟨rfl, ?_, FN.out.then f8 (fun i hi e => by have := HD.out; omega)⟩
          rw [HE.out]
          rfl
        · have HE : Hid (decP s = .ok ⟨byU s 0, ⟨0, 0, 0⟩, y⟩) := by
            unfold Hid
            rw [HP.out, hen]
          go_upto_region 17 with (first | (go_at_call 56; refine (end_any DCn.out).mono ?_; rintro e w8 ⟨hp8, f8⟩; rw [hen] at hp8; obtain ⟨rfl, D8⟩ := hp8; unfold uV) | fail)
          have hd := HD.out
          have k0 := (K0.out.fr f8 (by omega)).c
          have k1 := (K1.out.fr f8 (by omega)).c
          have k2 := (K2.out.fr f8 (by omega)).c
          have k3 := (K3.out.fr f8 (by omega)).c
          have k4 := (K4.out.fr f8 (by omega)).c
          have P8 := hid (fun q u hu => (PN.out q u hu).fr f8 (by omega))
          have F8 := hid (FN.out.then f8 (fun i hi e => by omega))
          have O8 := hid (ON.out.fr f8 (fun x hx e => by exact HD2.out x hx e))
          clear D8 f8 hd
          have y0 := (P8.out 0 _ rfl).c
          have y1 := (P8.out 1 _ rfl).c
          have y2 := (P8.out 2 _ rfl).c
          have y3 := (P8.out 3 _ rfl).c
          have y4 := (P8.out 4 _ rfl).c
          have x0 := (P8.out 0 _ rfl).f
          have x1 := (P8.out 1 _ rfl).f
          have x2 := (P8.out 2 _ rfl).f
          have x3 := (P8.out 3 _ rfl).f
          have x4 := (P8.out 4 _ rfl).f
          go_wp2_with fail
          exact dec_end Try.results33 rfl rfl (P8.out 0 _ rfl) (P8.out 1 _ rfl) (P8.out 2 _ rfl) (P8.out 3 _ rfl) (P8.out 4 _ rfl) HD.out.1 (by have := HD.out; omega) O8.out F8.out (fun e' w' h1 h2 h3 => by
            refine ⟨?_, h3⟩
            rw [HE.out]
            first
              | exact ⟨_, h1, h2⟩
              | exact ⟨_, h1.trans (by rw [HB.out]; rfl), h2⟩)
    have e65 : (((byU s 0).toNat : Int) == 65) = false := by rcases h : (((byU s 0).toNat : Int) == 65) with _ | _; rfl; exact absurd ((u8_eq (n := 65) (by omega)).1 h) h65
    have e66 : (((byU s 0).toNat : Int) == 66) = false := by rcases h : (((byU s 0).toNat : Int) == 66) with _ | _; rfl; exact absurd ((u8_eq (n := 66) (by omega)).1 h) h66
    have e78 : (((byU s 0).toNat : Int) == 78) = false := by rcases h : (((byU s 0).toNat : Int) == 78) with _ | _; rfl; exact absurd ((u8_eq (n := 78) (by omega)).1 h) h78
    have e83 : (((byU s 0).toNat : Int) == 83) = false := by rcases h : (((byU s 0).toNat : Int) == 83) with _ | _; rfl; exact absurd ((u8_eq (n := 83) (by omega)).1 h) h83
    have e84 : (((byU s 0).toNat : Int) == 84) = false := by rcases h : (((byU s 0).toNat : Int) == 84) with _ | _; rfl; exact absurd ((u8_eq (n := 84) (by omega)).1 h) h84
    have e88 : (((byU s 0).toNat : Int) == 88) = false := by rcases h : (((byU s 0).toNat : Int) == 88) with _ | _; rfl; exact absurd ((u8_eq (n := 88) (by omega)).1 h) h88
    have HE : Hid (decP s = .error 0) := by
      unfold Hid decP
      rw [hvb]
      simp only
      rw [if_neg h65, if_neg (by intro c; rcases c with c | c; exact h66 c; exact h78 c), if_neg h83, if_neg h84, if_neg h88]
    go_wp2_with fail
    refine ⟨rfl, ?_, FN.out⟩
    rw [HE.out]
    rfl
  · have hvb : vbP s 0 = .error 0 := by unfold vbP; rw [if_neg hz]
    have HE : Hid (decP s = .error 0) := by unfold Hid decP; rw [hvb]
    go_wp2_with fail
    refine (verb_any DC0.out).mono ?_
    rintro e w1 ⟨hp1, f1⟩
    rw [hvb] at hp1
    obtain rfl : e = pan 0 := hp1
    unfold pan
    go_wp2_with fail
    refine ⟨rfl, ?_, F0.out.then f1 (fun i hi e => by have := HC2.out; omega)⟩
    rw [HE.out]
    rfl

end Go.Proofs.Qxb6500452a
