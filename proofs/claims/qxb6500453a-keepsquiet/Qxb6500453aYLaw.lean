/- A step of the script, an answer; leaving a player. -/
import Derived.Test.Qxb6500453aYMov
namespace Go.Proofs.Qxb6500453a
open Go Go.RowKit
set_option maxRecDepth 100000
set_option maxHeartbeats 1600000
set_option linter.unusedSimpArgs false
set_option linter.unusedVariables false

structure Stp where
  kind : Int
  a : Int
  b : Int
  c : Int
  s : ByteArray
  t : ByteArray

def Stp.val (o : Stp) : Value := .agg #[.int .i64 o.kind, .int .i64 o.a, .int .i64 o.b, .int .i64 o.c, .string o.s, .string o.t]
def ansV (e n m : Int) (s : ByteArray) : Value := .agg #[.int .i64 e, .int .i64 n, .int .i64 m, .string s]

/-- Split by nothing, the lock taken: it panics. -/
def divZ (s : Led) (o : Stp) : Prop := o.b = 0 ∧ acqE s o.a = 0
instance (s : Led) (o : Stp) : Decidable (divZ s o) := by unfold divZ; infer_instance
def doE (s : Led) (o : Stp) : Int := if o.kind = 2 then acqE s o.a else if o.kind = 3 then trE s o.a o.b o.c else if o.kind = 4 then (if divZ s o then 10 else splE s o.a o.b) else if o.kind = 5 then batE s (movs o.s o.a o.b o.c) else if o.kind = 11 then (cenA s).2.1 else 0
def doN (s : Led) (o : Stp) : Int := if o.kind = 2 then balN s o.a else if o.kind = 3 then trN s o.a o.b o.c else if o.kind = 4 then (if divZ s o then 0 else splN s o.a o.b) else if o.kind = 5 then batN s (movs o.s o.a o.b o.c) else if o.kind = 11 then (cenA s).1 else if o.kind = 6 then 400 else 0
def doT (s : Led) (o : Stp) : ByteArray := if o.kind = 7 then L.bs (showD s) else ⟨#[]⟩
def doS (s : Led) (o : Stp) : Led := if o.kind = 2 then oneS s o.a else if o.kind = 3 then trS s o.a o.b o.c else if o.kind = 4 then (if divZ s o then oneS s o.a else splS s o.a o.b) else if o.kind = 5 then batS s (movs o.s o.a o.b o.c) else if o.kind = 11 then cenS s else s
def doV (s : Led) (o : Stp) : Value := ansV (doE s o) (doN s o) 0 (doT s o)

/-- Four cells of an answer's box. -/
structure Box (w : World) (pa : Nat) : Prop where
  a0 : At w pa 0 (.int .i64 0)
  a1 : At w pa 1 (.int .i64 0)
  a2 : At w pa 2 (.int .i64 0)
  a3 : At w pa 3 (.string ⟨#[]⟩)
theorem Box.fr {w w' : World} {pa : Nat} (h : Box w pa) {S : Nat → Prop} (hf : Fr S w w') (hn : ¬ S pa) : Box w' pa := ⟨h.a0.fr hf hn, h.a1.fr hf hn, h.a2.fr hf hn, h.a3.fr hf hn⟩
theorem Box.new (w : World) : Box (w.alloc (.cells #[.int .i64 0, .int .i64 0, .int .i64 0, .string ⟨#[]⟩] 51)) w.heap.size := ⟨At.new w _ _ rfl, At.new w _ _ rfl, At.new w _ _ rfl, At.new w _ _ rfl⟩
theorem do_box {w w1 : World} {F : Nat → Prop} (hF : ∀ i, F i → i < w.heap.size) {c : Obj} (hf : Fr F ((w.alloc c).alloc (.cells #[.int .i64 0, .int .i64 0, .int .i64 0, .string ⟨#[]⟩] 51)) w1) : Box w1 (w.heap.size + 1) := by
  have := Box.new (w.alloc c)
  simp only [World.size_alloc] at this
  exact this.fr hf (fun h => by have := hF _ h; omega)
theorem two_fr (w : World) (c1 c2 : Obj) : Fr (fun _ => False) w ((w.alloc c1).alloc c2) := ((Fr.refl _ _).alloc _).alloc _
theorem in_fr {w : World} (pa o : Nat) (v : Value) {w0 : World} (h : Fr (fun i => i = pa) w0 w) : Fr (fun i => i = pa) w0 (w.setCell ⟨pa, o, none⟩ v) := h.setCell (p := ⟨pa, o, none⟩) (fun _ => rfl) v

theorem fr_eq (S : Nat → Prop) {a b : World} (h : b = a) : Fr S a b := h ▸ Fr.refl S b
def recD (F : Nat) (pa : Nat) : Deferred := { target := .fn (.func F) #[.pointer (some ⟨pa, 0, none⟩)], args := #[] }
theorem ne_nil (x : Value) (w : World) : (binOp BinOp.neq 20 (.iface 10 x) .nilIface).run Try.prog w = .ok (.bool true) w := by kernel_rfl
theorem eq_nil (w : World) : (binOp BinOp.neq 20 .nilIface .nilIface).run Try.prog w = .ok (.bool false) w := by kernel_rfl

theorem rec_idle (pa : Addr) (w : World) :
    CallsD Try.prog 47 #[.pointer (some pa)] .returning w fun e u' w' => e = .returned (.tuple #[]) ∧ u' = .returning ∧ w' = w := by
  have hq := eq_nil
  refine callsD_of_wpS Try.func47 rfl fun c₀ cs hu => ?_
  apply wpS_seq
  apply wpS_region
  simp [wpOpsS, go_sem, recoverD, hu, Try.ntmps47, Exit.thenS]
  simp only [Array.replicate_succ, Array.replicate_zero, List.push_toArray, List.append_toArray, List.nil_append, List.cons_append, List.setIfInBounds_toArray, List.set_cons_zero, List.set_cons_succ]
  refine wpS_of_wp ?_
  go_wp2_with fail
  cases c₀
  simp_all [bodyPostS, results, Try.results47]

theorem rec_catch {w : World} {pa : Nat} (h0 : Has w pa 0) (h1 : Has w pa 1) (h2 : Has w pa 2) (h3 : Has w pa 3) (x : Value) (older : List PanicEntry) :
    CallsD Try.prog 47 #[.pointer (some ⟨pa, 0, none⟩)] (.panicking ({ v := .iface 10 x, recovered := false } :: older)) w fun e' u' w' =>
      e' = .returned (.tuple #[]) ∧ u' = .panicking ({ v := .iface 10 x, recovered := true } :: older) ∧ At w' pa 0 (.int .i64 10) ∧ At w' pa 1 (.int .i64 0) ∧ At w' pa 2 (.int .i64 0) ∧ At w' pa 3 (.string ⟨#[]⟩) ∧ Fr (fun k => k = pa) w w' := by
  obtain ⟨v0, a0⟩ := h0
  obtain ⟨v1, a1⟩ := h1
  obtain ⟨v2, a2⟩ := h2
  obtain ⟨v3, a3⟩ := h3
  have c0 := a0.c
  have c1 := a1.c
  have c2 := a2.c
  have c3 := a3.c
  have f0 := a0.f
  have f1 := a1.f
  have f2 := a2.f
  have f3 := a3.f
  have A0 := hid a0
  have A1 := hid a1
  have A2 := hid a2
  have A3 := hid a3
  clear a0 a1 a2 a3
  have hq := ne_nil x
  refine callsD_of_wpS Try.func47 rfl fun c₀ cs hu => ?_
  apply wpS_seq
  apply wpS_region
  simp [wpOpsS, go_sem, recoverD, hu, Try.ntmps47, Exit.thenS]
  simp only [Array.replicate_succ, Array.replicate_zero, List.push_toArray, List.append_toArray, List.nil_append, List.cons_append, List.setIfInBounds_toArray, List.set_cons_zero, List.set_cons_succ]
  refine wpS_of_wp ?_
  go_wp2_with fail
  refine ⟨rfl, _, rfl, .tuple #[], by simp [results, Try.results47], rfl, rfl, ?_, ?_, ?_, ?_, ?_⟩
  · exact (((A0.out.same _).other (by omega) _).other (by omega) _).other (by omega) _
  · exact (((A1.out.other (by omega) _).same _).other (by omega) _).other (by omega) _
  · exact (((A2.out.other (by omega) _).other (by omega) _).same _).other (by omega) _
  · exact (((A3.out.other (by omega) _).other (by omega) _).other (by omega) _).same _
  · exact in_fr _ _ _ (in_fr _ _ _ (in_fr _ _ _ (in_fr _ _ _ (Fr.refl _ _))))

/-- Leaving a player by its return: the answer's cells are stored once more and read. -/
theorem rec_leave {fn : Func} {tmps : Array Value} {R : Ending → World → Prop} {W : World} {pa : Nat} {v0 v1 v2 v3 : Value} (hres : fn.results = #[.cell 4 51]) (h4 : tmps.getD 4 undef = .pointer (some ⟨pa, 0, none⟩))
    (h0 : Has W pa 0) (h1 : Has W pa 1) (h2 : Has W pa 2) (h3 : Has W pa 3)
    (hR : R (.returned (.agg #[v0, v1, v2, v3])) ((((W.setCell ⟨pa, 0, none⟩ v0).setCell ⟨pa, 1, none⟩ v1).setCell ⟨pa, 2, none⟩ v2).setCell ⟨pa, 3, none⟩ v3)) :
    Leaves Try.prog fn tmps R [recD 47 pa] .returning ((((W.setCell ⟨pa, 0, none⟩ v0).setCell ⟨pa, 1, none⟩ v1).setCell ⟨pa, 2, none⟩ v2).setCell ⟨pa, 3, none⟩ v3) := by
  obtain ⟨_, a0⟩ := h0
  obtain ⟨_, a1⟩ := h1
  obtain ⟨_, a2⟩ := h2
  obtain ⟨_, a3⟩ := h3
  have z0 := ((((a0.same v0).other (b' := pa) (o' := 1) (by omega) v1).other (b' := pa) (o' := 2) (by omega) v2).other (b' := pa) (o' := 3) (by omega) v3).c
  have z1 := ((((a1.other (b' := pa) (o' := 0) (by omega) v0).same v1).other (b' := pa) (o' := 2) (by omega) v2).other (b' := pa) (o' := 3) (by omega) v3).c
  have z2 := ((((a2.other (b' := pa) (o' := 0) (by omega) v0).other (b' := pa) (o' := 1) (by omega) v1).same v2).other (b' := pa) (o' := 3) (by omega) v3).c
  have z3 := ((((a3.other (b' := pa) (o' := 0) (by omega) v0).other (b' := pa) (o' := 1) (by omega) v1).other (b' := pa) (o' := 2) (by omega) v2).same v3).c
  generalize (((W.setCell ⟨pa, 0, none⟩ v0).setCell ⟨pa, 1, none⟩ v1).setCell ⟨pa, 2, none⟩ v2).setCell ⟨pa, 3, none⟩ v3 = W4 at *
  have ht' : tmps[4]?.getD undef = .pointer (some ⟨pa, 0, none⟩) := by simpa using h4
  refine leaves_cons (f := 47) (args := #[.pointer (some ⟨pa, 0, none⟩)]) (by simp) (by simp [go_sem]) ?_
  refine (rec_idle _ W4).mono ?_
  rintro e1 u w3 ⟨rfl, rfl, rfl⟩
  exact ⟨.agg #[v0, v1, v2, v3], by simp [results, hres, go_sem, ht', z0, z1, z2, z3], hR⟩

/-- Leaving a player by a panic of the runtime's own. -/
theorem rec_leave_panic {fn : Func} {tmps : Array Value} {R : Ending → World → Prop} {W : World} {pa : Nat} {x : Value} {older : List PanicEntry} (hres : fn.results = #[.cell 4 51]) (h4 : tmps.getD 4 undef = .pointer (some ⟨pa, 0, none⟩)) (hb : Box W pa) (hold : older.dropWhile (!·.goexit) = [])
    (hR : ∀ w', Fr (fun k => k = pa) W w' → R (.returned (ansV 10 0 0 ⟨#[]⟩)) w') :
    Leaves Try.prog fn tmps R [recD 47 pa] (.panicking ({ v := .iface 10 x, recovered := false } :: older)) W := by
  have ht' : tmps[4]?.getD undef = .pointer (some ⟨pa, 0, none⟩) := by simpa using h4
  refine leaves_cons (f := 47) (args := #[.pointer (some ⟨pa, 0, none⟩)]) (by simp) (by simp [go_sem]) ?_
  refine (rec_catch hb.a0.has hb.a1.has hb.a2.has hb.a3.has x older).mono ?_
  rintro e1 u w3 ⟨rfl, rfl, b0, b1, b2, b3, f3⟩
  have z0 := b0.c
  have z1 := b1.c
  have z2 := b2.c
  have z3 := b3.c
  have hs : settle (.panicking ({ v := .iface 10 x, recovered := true } :: older)) = .returning := by simp [settle, hold]
  show Leaves Try.prog fn tmps R [] (settle (.panicking ({ v := .iface 10 x, recovered := true } :: older))) w3
  rw [hs]
  exact ⟨ansV 10 0 0 ⟨#[]⟩, by simp [results, hres, go_sem, ht', z0, z1, z2, z3, ansV], hR _ f3⟩

theorem mec_idle (pa : Addr) (w : World) :
    CallsD Try.prog 77 #[.pointer (some pa)] .returning w fun e u' w' => e = .returned (.tuple #[]) ∧ u' = .returning ∧ w' = w := by
  have hq := eq_nil
  refine callsD_of_wpS Try.func77 rfl fun c₀ cs hu => ?_
  apply wpS_seq
  apply wpS_region
  simp [wpOpsS, go_sem, recoverD, hu, Try.ntmps77, Exit.thenS]
  simp only [Array.replicate_succ, Array.replicate_zero, List.push_toArray, List.append_toArray, List.nil_append, List.cons_append, List.setIfInBounds_toArray, List.set_cons_zero, List.set_cons_succ]
  refine wpS_of_wp ?_
  go_wp2_with fail
  cases c₀
  simp_all [bodyPostS, results, Try.results77]

theorem mec_catch {w : World} {pa : Nat} (h0 : Has w pa 0) (h1 : Has w pa 1) (h2 : Has w pa 2) (h3 : Has w pa 3) (x : Value) (older : List PanicEntry) :
    CallsD Try.prog 77 #[.pointer (some ⟨pa, 0, none⟩)] (.panicking ({ v := .iface 10 x, recovered := false } :: older)) w fun e' u' w' =>
      e' = .returned (.tuple #[]) ∧ u' = .panicking ({ v := .iface 10 x, recovered := true } :: older) ∧ At w' pa 0 (.int .i64 10) ∧ At w' pa 1 (.int .i64 0) ∧ At w' pa 2 (.int .i64 0) ∧ At w' pa 3 (.string ⟨#[]⟩) ∧ Fr (fun k => k = pa) w w' := by
  obtain ⟨v0, a0⟩ := h0
  obtain ⟨v1, a1⟩ := h1
  obtain ⟨v2, a2⟩ := h2
  obtain ⟨v3, a3⟩ := h3
  have c0 := a0.c
  have c1 := a1.c
  have c2 := a2.c
  have c3 := a3.c
  have f0 := a0.f
  have f1 := a1.f
  have f2 := a2.f
  have f3 := a3.f
  have A0 := hid a0
  have A1 := hid a1
  have A2 := hid a2
  have A3 := hid a3
  clear a0 a1 a2 a3
  have hq := ne_nil x
  refine callsD_of_wpS Try.func77 rfl fun c₀ cs hu => ?_
  apply wpS_seq
  apply wpS_region
  simp [wpOpsS, go_sem, recoverD, hu, Try.ntmps77, Exit.thenS]
  simp only [Array.replicate_succ, Array.replicate_zero, List.push_toArray, List.append_toArray, List.nil_append, List.cons_append, List.setIfInBounds_toArray, List.set_cons_zero, List.set_cons_succ]
  refine wpS_of_wp ?_
  go_wp2_with fail
  refine ⟨rfl, _, rfl, .tuple #[], by simp [results, Try.results77], rfl, rfl, ?_, ?_, ?_, ?_, ?_⟩
  · exact (((A0.out.same _).other (by omega) _).other (by omega) _).other (by omega) _
  · exact (((A1.out.other (by omega) _).same _).other (by omega) _).other (by omega) _
  · exact (((A2.out.other (by omega) _).other (by omega) _).same _).other (by omega) _
  · exact (((A3.out.other (by omega) _).other (by omega) _).other (by omega) _).same _
  · exact in_fr _ _ _ (in_fr _ _ _ (in_fr _ _ _ (in_fr _ _ _ (Fr.refl _ _))))

/-- Leaving a player by its return: the answer's cells are stored once more and read. -/
theorem mec_leave {fn : Func} {tmps : Array Value} {R : Ending → World → Prop} {W : World} {pa : Nat} {v0 v1 v2 v3 : Value} (hres : fn.results = #[.cell 4 51]) (h4 : tmps.getD 4 undef = .pointer (some ⟨pa, 0, none⟩))
    (h0 : Has W pa 0) (h1 : Has W pa 1) (h2 : Has W pa 2) (h3 : Has W pa 3)
    (hR : R (.returned (.agg #[v0, v1, v2, v3])) ((((W.setCell ⟨pa, 0, none⟩ v0).setCell ⟨pa, 1, none⟩ v1).setCell ⟨pa, 2, none⟩ v2).setCell ⟨pa, 3, none⟩ v3)) :
    Leaves Try.prog fn tmps R [recD 77 pa] .returning ((((W.setCell ⟨pa, 0, none⟩ v0).setCell ⟨pa, 1, none⟩ v1).setCell ⟨pa, 2, none⟩ v2).setCell ⟨pa, 3, none⟩ v3) := by
  obtain ⟨_, a0⟩ := h0
  obtain ⟨_, a1⟩ := h1
  obtain ⟨_, a2⟩ := h2
  obtain ⟨_, a3⟩ := h3
  have z0 := ((((a0.same v0).other (b' := pa) (o' := 1) (by omega) v1).other (b' := pa) (o' := 2) (by omega) v2).other (b' := pa) (o' := 3) (by omega) v3).c
  have z1 := ((((a1.other (b' := pa) (o' := 0) (by omega) v0).same v1).other (b' := pa) (o' := 2) (by omega) v2).other (b' := pa) (o' := 3) (by omega) v3).c
  have z2 := ((((a2.other (b' := pa) (o' := 0) (by omega) v0).other (b' := pa) (o' := 1) (by omega) v1).same v2).other (b' := pa) (o' := 3) (by omega) v3).c
  have z3 := ((((a3.other (b' := pa) (o' := 0) (by omega) v0).other (b' := pa) (o' := 1) (by omega) v1).other (b' := pa) (o' := 2) (by omega) v2).same v3).c
  generalize (((W.setCell ⟨pa, 0, none⟩ v0).setCell ⟨pa, 1, none⟩ v1).setCell ⟨pa, 2, none⟩ v2).setCell ⟨pa, 3, none⟩ v3 = W4 at *
  have ht' : tmps[4]?.getD undef = .pointer (some ⟨pa, 0, none⟩) := by simpa using h4
  refine leaves_cons (f := 77) (args := #[.pointer (some ⟨pa, 0, none⟩)]) (by simp) (by simp [go_sem]) ?_
  refine (mec_idle _ W4).mono ?_
  rintro e1 u w3 ⟨rfl, rfl, rfl⟩
  exact ⟨.agg #[v0, v1, v2, v3], by simp [results, hres, go_sem, ht', z0, z1, z2, z3], hR⟩

/-- Leaving a player by a panic of the runtime's own. -/
theorem mec_leave_panic {fn : Func} {tmps : Array Value} {R : Ending → World → Prop} {W : World} {pa : Nat} {x : Value} {older : List PanicEntry} (hres : fn.results = #[.cell 4 51]) (h4 : tmps.getD 4 undef = .pointer (some ⟨pa, 0, none⟩)) (hb : Box W pa) (hold : older.dropWhile (!·.goexit) = [])
    (hR : ∀ w', Fr (fun k => k = pa) W w' → R (.returned (ansV 10 0 0 ⟨#[]⟩)) w') :
    Leaves Try.prog fn tmps R [recD 77 pa] (.panicking ({ v := .iface 10 x, recovered := false } :: older)) W := by
  have ht' : tmps[4]?.getD undef = .pointer (some ⟨pa, 0, none⟩) := by simpa using h4
  refine leaves_cons (f := 77) (args := #[.pointer (some ⟨pa, 0, none⟩)]) (by simp) (by simp [go_sem]) ?_
  refine (mec_catch hb.a0.has hb.a1.has hb.a2.has hb.a3.has x older).mono ?_
  rintro e1 u w3 ⟨rfl, rfl, b0, b1, b2, b3, f3⟩
  have z0 := b0.c
  have z1 := b1.c
  have z2 := b2.c
  have z3 := b3.c
  have hs : settle (.panicking ({ v := .iface 10 x, recovered := true } :: older)) = .returning := by simp [settle, hold]
  show Leaves Try.prog fn tmps R [] (settle (.panicking ({ v := .iface 10 x, recovered := true } :: older))) w3
  rw [hs]
  exact ⟨ansV 10 0 0 ⟨#[]⟩, by simp [results, hres, go_sem, ht', z0, z1, z2, z3, ansV], hR _ f3⟩

end Go.Proofs.Qxb6500453a
