/- The gate's law: a step, an answer; Check, Under, Sound, max0. -/
import Derived.Test.Qxb6500452aGShow
import Derived.Test.Qxb6500452aLCheck
namespace Go.Proofs.Qxb6500452a
open Go Go.RowKit
set_option maxRecDepth 100000
set_option maxHeartbeats 1600000
set_option linter.unusedSimpArgs false
set_option linter.unusedVariables false

structure Stp where
  kind : Int
  a : Int
  b : Int
  c : Int
  s : ByteArray
  t : ByteArray

def Stp.val (o : Stp) : Value := .agg #[.int .i64 o.kind, .int .i64 o.a, .int .i64 o.b, .int .i64 o.c, .string o.s, .string o.t]
def ansV (e n m : Int) (s : ByteArray) : Value := .agg #[.int .i64 e, .int .i64 n, .int .i64 m, .string s]
def doE (s : Led) (o : Stp) : Int := if o.kind = 2 then (srv s o.s).2.1 else 0
def doT (s : Led) (c : Cts) (o : Stp) : ByteArray := if o.kind = 2 then (srv s o.s).1 else if o.kind = 3 then showG s c else ⟨#[]⟩
def doS (s : Led) (o : Stp) : Led := if o.kind = 2 then (srv s o.s).2.2 else s
def doC (s : Led) (c : Cts) (o : Stp) : Cts := if o.kind = 2 then cntC c (srv s o.s).2.1 else c

/-- Four cells of an answer's box. -/
structure Box (w : World) (pa : Nat) : Prop where
  a0 : At w pa 0 (.int .i64 0)
  a1 : At w pa 1 (.int .i64 0)
  a2 : At w pa 2 (.int .i64 0)
  a3 : At w pa 3 (.string ⟨#[]⟩)
theorem Box.fr {w w' : World} {pa : Nat} (h : Box w pa) {S : Nat → Prop} (hf : Fr S w w') (hn : ¬ S pa) : Box w' pa := ⟨h.a0.fr hf hn, h.a1.fr hf hn, h.a2.fr hf hn, h.a3.fr hf hn⟩
theorem Box.new (w : World) : Box (w.alloc (.cells #[.int .i64 0, .int .i64 0, .int .i64 0, .string ⟨#[]⟩] 68)) w.heap.size := ⟨At.new w _ _ rfl, At.new w _ _ rfl, At.new w _ _ rfl, At.new w _ _ rfl⟩
theorem do_box {w w1 : World} {F : Nat → Prop} (hF : ∀ i, F i → i < w.heap.size) {c : Obj} (hf : Fr F ((w.alloc c).alloc (.cells #[.int .i64 0, .int .i64 0, .int .i64 0, .string ⟨#[]⟩] 68)) w1) : Box w1 (w.heap.size + 1) := by
  have := Box.new (w.alloc c)
  simp only [World.size_alloc] at this
  exact this.fr hf (fun h => by have := hF _ h; omega)
theorem two_fr (w : World) (c1 c2 : Obj) : Fr (fun _ => False) w ((w.alloc c1).alloc c2) := ((Fr.refl _ _).alloc _).alloc _
theorem box_fr (w : World) (pa : Nat) (v0 v1 v2 v3 : Value) : Fr (fun i => i = pa) w ((((w.setCell ⟨pa, 0, none⟩ v0).setCell ⟨pa, 1, none⟩ v1).setCell ⟨pa, 2, none⟩ v2).setCell ⟨pa, 3, none⟩ v3) :=
  ((((Fr.refl (fun i => i = pa) w).setCell (p := ⟨pa, 0, none⟩) (fun _ => rfl) v0).setCell (p := ⟨pa, 1, none⟩) (fun _ => rfl) v1).setCell (p := ⟨pa, 2, none⟩) (fun _ => rfl) v2).setCell (p := ⟨pa, 3, none⟩) (fun _ => rfl) v3

/-- The end of a player: the answer's four cells are stored and read. -/
theorem retA {fn : Func} {R : Ending → World → Prop} {a : Act} {W : World} {t pa : Nat} {v0 v1 v2 v3 : Value} (hres : fn.results = #[.cell t 68]) (ht : a.tmps.getD t undef = .pointer (some ⟨pa, 0, none⟩)) (hd : a.defers = [])
    (h0 : Has W pa 0) (h1 : Has W pa 1) (h2 : Has W pa 2) (h3 : Has W pa 3)
    (hR : R (.returned (.agg #[v0, v1, v2, v3])) ((((W.setCell ⟨pa, 0, none⟩ v0).setCell ⟨pa, 1, none⟩ v1).setCell ⟨pa, 2, none⟩ v2).setCell ⟨pa, 3, none⟩ v3)) :
    bodyPost Try.prog fn R .ret a ((((W.setCell ⟨pa, 0, none⟩ v0).setCell ⟨pa, 1, none⟩ v1).setCell ⟨pa, 2, none⟩ v2).setCell ⟨pa, 3, none⟩ v3) := by
  obtain ⟨_, a0⟩ := h0
  obtain ⟨_, a1⟩ := h1
  obtain ⟨_, a2⟩ := h2
  obtain ⟨_, a3⟩ := h3
  have z0 := ((((a0.same v0).other (b' := pa) (o' := 1) (by omega) v1).other (b' := pa) (o' := 2) (by omega) v2).other (b' := pa) (o' := 3) (by omega) v3).c
  have z1 := ((((a1.other (b' := pa) (o' := 0) (by omega) v0).same v1).other (b' := pa) (o' := 2) (by omega) v2).other (b' := pa) (o' := 3) (by omega) v3).c
  have z2 := ((((a2.other (b' := pa) (o' := 0) (by omega) v0).other (b' := pa) (o' := 1) (by omega) v1).same v2).other (b' := pa) (o' := 3) (by omega) v3).c
  have z3 := ((((a3.other (b' := pa) (o' := 0) (by omega) v0).other (b' := pa) (o' := 1) (by omega) v1).other (b' := pa) (o' := 2) (by omega) v2).same v3).c
  generalize (((W.setCell ⟨pa, 0, none⟩ v0).setCell ⟨pa, 1, none⟩ v1).setCell ⟨pa, 2, none⟩ v2).setCell ⟨pa, 3, none⟩ v3 = W4 at *
  have ht' : a.tmps[t]?.getD undef = .pointer (some ⟨pa, 0, none⟩) := by simpa using ht
  refine ⟨hd, _, ?_, hR⟩
  simp [results, hres, go_sem, ht', z0, z1, z2, z3]

/-- Step i of the script, cell by cell. -/
def StpAt (w : World) (b p : Nat) (o : Stp) : Prop :=
  w.cell? ⟨b, p, none⟩ = some (.int .i64 o.kind) ∧ w.cell? ⟨b, p + 1, none⟩ = some (.int .i64 o.a) ∧ w.cell? ⟨b, p + 2, none⟩ = some (.int .i64 o.b) ∧
  w.cell? ⟨b, p + 3, none⟩ = some (.int .i64 o.c) ∧ w.cell? ⟨b, p + 4, none⟩ = some (.string o.s) ∧ w.cell? ⟨b, p + 5, none⟩ = some (.string o.t)
theorem StpAt.frS {w w' : World} {b p : Nat} {o : Stp} {S : Nat → Prop} (h : StpAt w b p o) (hf : Fr S w w') (hn : ¬ S b) : StpAt w' b p o := by
  obtain ⟨h0, h1, h2, h3, h4, h5⟩ := h
  have hb : b < w.heap.size := World.block_lt_of_cell? (a := ⟨b, p, none⟩) w h0
  have e : ∀ q, w'.cell? ⟨b, q, none⟩ = w.cell? ⟨b, q, none⟩ := fun q => hf.cell (p := ⟨b, q, none⟩) hb hn
  exact ⟨by rw [e, h0], by rw [e, h1], by rw [e, h2], by rw [e, h3], by rw [e, h4], by rw [e, h5]⟩
theorem StpAt.new (w : World) (o : Stp) : StpAt (w.alloc (.cells #[.int .i64 o.kind, .int .i64 o.a, .int .i64 o.b, .int .i64 o.c, .string o.s, .string o.t] 65)) w.heap.size 0 o :=
  ⟨(At.new w _ _ rfl).c, (At.new w _ _ rfl).c, (At.new w _ _ rfl).c, (At.new w _ _ rfl).c, (At.new w _ _ rfl).c, (At.new w _ _ rfl).c⟩
theorem StpAt.fr {w w' : World} {b p : Nat} {o : Stp} (h : StpAt w b p o) (hf : Fr (fun _ => False) w w') : StpAt w' b p o := h.frS hf (fun h => h)

theorem max0_any (i : Int) (w : World) : Calls Try.prog 41 #[.int .i64 i] w fun e w' => (∃ n : Int, e = .returned (.int .i64 n)) ∧ w' = w := by
  by_cases h : i < 0
  · go_enter Try.func41, Try.ntmps41
    go_wp2_with fail
    go_ret
    exact ⟨⟨_, rfl⟩, rfl⟩
  · go_enter Try.func41, Try.ntmps41
    go_wp2_with fail
    go_ret
    exact ⟨⟨_, rfl⟩, rfl⟩

def belV (b : LB) : Value := .agg #[.pointer (some ⟨b.D, 0, none⟩), .pointer (some ⟨b.T, 0, none⟩)]
theorem under_any {w : World} {b : LB} {s : Led} (h : LR w b s) : Calls Try.prog 35 #[belV b] w fun e w' => e = .returned (.string (L.bs (showD s))) ∧ Fr (fun _ => False) w w' := by
  have H := hid h
  clear h
  unfold belV
  go_enter Try.func35, Try.ntmps35
  go_wp2_with fail
  have fa := (Fr.refl (fun _ => False) w).alloc (.cells #[.pointer (some ⟨b.D, 0, none⟩), .pointer (some ⟨b.T, 0, none⟩)] 30)
  have HA := hid (H.out.fr fa (fun _ _ h => h))
  have FA := hid fa
  clear fa
  refine (lshow_any HA.out).mono ?_
  rintro x w1 ⟨rfl, f1⟩
  have F1 := hid (FA.out.trans f1)
  clear f1
  go_wp2_with fail
  go_ret
  exact ⟨rfl, F1.out⟩
theorem sound_any {w : World} {b : LB} {s : Led} (h : LR w b s) : Calls Try.prog 47 #[belV b] w fun e w' => e = .returned (.bool true) ∧ Fr (fun _ => False) w w' := by
  have H := hid h
  clear h
  unfold belV
  go_enter Try.func47, Try.ntmps47
  go_wp2_with fail
  have fa := (Fr.refl (fun _ => False) w).alloc (.cells #[.pointer (some ⟨b.D, 0, none⟩), .pointer (some ⟨b.T, 0, none⟩)] 30)
  have HA := hid (H.out.fr fa (fun _ _ h => h))
  have FA := hid fa
  have c1 := (At.new w #[.pointer (some ⟨b.D, 0, none⟩), .pointer (some ⟨b.T, 0, none⟩)] 30 (o := 1) rfl).c
  clear fa
  refine (lcheck_any HA.out).mono ?_
  rintro x w1 ⟨rfl, hw⟩
  obtain rfl := hw.symm
  clear hw
  go_wp2_with fail
  refine (tcheck_any HA.out.rt).mono ?_
  rintro x w2 ⟨rfl, f1⟩
  have F1 := hid (FA.out.trans f1)
  clear f1
  go_wp2_with fail
  go_ret
  exact ⟨rfl, F1.out⟩

/-- The four counters, one by one. -/
def ctK (c : Cts) : Nat → Nat
  | 0 => c.ok
  | 1 => c.bad
  | 2 => c.err
  | _ => c.inn
theorem ctK_le {c : Cts} (h : c.ok ≤ 99 ∧ c.bad ≤ 99 ∧ c.err ≤ 99 ∧ c.inn ≤ 99) (k : Nat) : ctK c k ≤ 99 := by
  obtain ⟨h1, h2, h3, h4⟩ := h
  match k with
  | 0 => exact h1
  | 1 => exact h2
  | 2 => exact h3
  | _ + 3 => exact h4

theorem gcheck_any {w : World} {G : Nat} {b : LB} {s : Led} {c : Cts} (h : GT w G b s c) :
    Calls Try.prog 46 #[.pointer (some ⟨G, 0, none⟩)] w fun e w' => e = .returned (.bool true) ∧ Fr (fun _ => False) w w' := by
  have HL := hid (ctK_le h.cl)
  have c0 := h.g0.c
  have c1 := h.g1.c
  have c2 := h.g2.c
  have c3 := h.g3.c
  have c4 := h.g4.c
  clear h
  go_enter Try.func46, Try.ntmps46
  go_upto_region 3 with fail
  go_region
  go_upto_region 4 with fail
  have FA := hid (((Fr.refl (fun _ => False) w).alloc (.cells #[.int .i64 (c.ok : Int), .int .i64 (c.bad : Int), .int .i64 (c.err : Int), .int .i64 (c.inn : Int)] 3)).drew)
  have AN : Hid (∀ k, k < 4 → At (w.alloc (.cells #[.int .i64 (c.ok : Int), .int .i64 (c.bad : Int), .int .i64 (c.err : Int), .int .i64 (c.inn : Int)] 3)).drew w.heap.size k (.int .i64 (ctK c k : Int))) := by
    intro k hk
    have := fun q v (hv : (#[.int .i64 (c.ok : Int), .int .i64 (c.bad : Int), .int .i64 (c.err : Int), .int .i64 (c.inn : Int)] : Array Value)[q]? = some v) => (At.new w _ 3 hv).drew
    match k, hk with
    | 0, _ => exact this 0 _ rfl
    | 1, _ => exact this 1 _ rfl
    | 2, _ => exact this 2 _ rfl
    | 3, _ => exact this 3 _ rfl
  clear c0 c1 c2 c3 c4
  generalize (w.alloc (.cells #[.int .i64 (c.ok : Int), .int .i64 (c.bad : Int), .int .i64 (c.err : Int), .int .i64 (c.inn : Int)] 3)).drew = w1 at *
  generalize w.heap.size = pL at *
  go_wp2_with fail
  go_loop [4] (fun i => ∃ k : Nat, k ≤ 4 ∧ i = .int .i64 k) (fun i => 4 - (intOf i).toNat)
  case atStart => exact ⟨0, by omega, rfl⟩
  case round =>
    obtain ⟨k, hk, rfl⟩ := hrel
    have hk0 : (0 : Int) ≤ (k : Int) := by omega
    by_cases hlt : k < 4
    · have hk4 : (k : Int) < 4 := by omega
      have cc := (AN.out k hlt).c
      have b0 : (0 : Int) ≤ (ctK c k : Int) := by omega
      have b1 : (ctK c k : Int) ≤ 99 := by have := HL.out k; omega
      generalize (ctK c k : Int) = v at *
      go_wp2_with fail
      exact ⟨⟨k + 1, by omega, by go_num⟩, by simp [intOf]; omega⟩
    · have hk4 : ¬ (k : Int) < 4 := by omega
      go_wp2_with fail
      go_ret
      exact ⟨rfl, FA.out⟩

end Go.Proofs.Qxb6500452a
