import Derived.Test.Qxb6500454aMod2
namespace Go.Proofs.Qxb6500454a
open Go Go.RowKit
set_option maxRecDepth 100000
set_option maxHeartbeats 800000
set_option linter.unusedSimpArgs false
set_option linter.unusedVariables false

/-- A step of the script, and an answer, as plain data. -/
structure Stp where
  kind : Int
  a : Int
  b : Int
  c : Int
  s : ByteArray
  t : ByteArray

def Stp.val (o : Stp) : Value := .agg #[.int .i64 o.kind, .int .i64 o.a, .int .i64 o.b, .int .i64 o.c, .string o.s, .string o.t]

def ansV (e n m : Int) (s : List UInt8) : Value := .agg #[.int .i64 e, .int .i64 n, .int .i64 m, .string (L.bs s)]

/-- What a step answers, and the state behind it. -/
def doE (s : L.St) (o : Stp) : Int :=
  if o.kind = 3 then (L.acq s o.a).2.1 else if o.kind = 4 then (L.rel s o.a).1 else if o.kind = 5 then (L.pair s o.a o.b).2.2.1 else 0
def doN (s : L.St) (o : Stp) : Int :=
  if o.kind = 3 then (L.acq s o.a).1 else if o.kind = 5 then (L.pair s o.a o.b).1 else if o.kind = 6 then ((L.allTo 4 s).1 : Int) else if o.kind = 7 then (s.cnt : Int) else 0
def doM (s : L.St) (o : Stp) : Int := if o.kind = 5 then (L.pair s o.a o.b).2.1 else 0
def doT (s : L.St) (o : Stp) : List UInt8 := if o.kind = 8 then L.showL s else []
def doS (s : L.St) (o : Stp) : L.St :=
  if o.kind = 2 then L.clear s else if o.kind = 3 then (L.acq s o.a).2.2 else if o.kind = 4 then (L.rel s o.a).2 else if o.kind = 5 then (L.pair s o.a o.b).2.2.2 else if o.kind = 6 then (L.allTo 4 s).2 else s
def doV (s : L.St) (o : Stp) : Value := ansV (doE s o) (doN s o) (doM s o) (doT s o)

/-- The two boxes of a player behind a call that touched S alone. -/
theorem box2 {w w1 : World} {S : Nat → Prop} (hS : ∀ i, w.heap.size ≤ i → ¬ S i) {c : Array Value}
    (hf : Fr S ((w.alloc (.cells c 43)).alloc (.cells #[.int .i64 0, .int .i64 0, .int .i64 0, .string ⟨#[]⟩] 45)) w1) :
    At w1 (w.heap.size + 1) 0 (.int .i64 0) ∧ At w1 (w.heap.size + 1) 1 (.int .i64 0) ∧ At w1 (w.heap.size + 1) 2 (.int .i64 0) ∧ At w1 (w.heap.size + 1) 3 (.string ⟨#[]⟩) ∧
    Fr S w w1 ∧ w.heap.size + 1 < w1.heap.size := by
  have e : ∀ {o v}, (#[.int .i64 0, .int .i64 0, .int .i64 0, .string ⟨#[]⟩] : Array Value)[o]? = some v → At w1 (w.heap.size + 1) o v := fun {o v} h => by
    have := At.new (w.alloc (.cells c 43)) #[.int .i64 0, .int .i64 0, .int .i64 0, .string ⟨#[]⟩] 45 h
    simp only [World.size_alloc] at this
    exact this.fr hf (hS _ (by omega))
  have hs := hf.size
  simp only [World.size_alloc] at hs
  exact ⟨e rfl, e rfl, e rfl, e rfl, ((Fr.refl _ _).alloc _).alloc _ |>.trans hf, by omega⟩

theorem RT.setS {w : World} {bT bC bR : Nat} {s : L.St} (h : RT w bT bC bR s) {b : Nat} (o : Nat) (x : Value) (hS : ¬ S3 bT bC bR b) : RT (w.setCell ⟨b, o, none⟩ x) bT bC bR s :=
  h.set o x (fun e => hS (.inl e)) (fun e => hS (.inr (.inl e))) (fun e => hS (.inr (.inr e)))

theorem MT.setS {w : World} {bM : Nat} {s : L.St} (h : MT w bM s) {b : Nat} (o : Nat) (x : Value) (hS : ¬ S1 bM b) : MT (w.setCell ⟨b, o, none⟩ x) bM s :=
  h.fr ((Fr.refl (fun i => i = b) w).setCell (fun _ => rfl) x) (fun e => hS e.symm)

theorem Fr.setN {S : Nat → Prop} {a w : World} (h : Fr S a w) {b : Nat} (hb : a.heap.size ≤ b) (o : Nat) (x : Value) : Fr S a (w.setCell ⟨b, o, none⟩ x) :=
  h.setCell (fun h' => absurd h' (by simp only; omega)) x

theorem fr_of_eq (S : Nat → Prop) {a b : World} (h : b = a) : Fr S a b := h ▸ Fr.refl S b

/-- A cell is there and may be written. -/
def Has (w : World) (b o : Nat) : Prop := ∃ v, At w b o v
theorem At.has {w : World} {b o : Nat} {v : Value} (h : At w b o v) : Has w b o := ⟨v, h⟩
theorem Has.set {w : World} {b o : Nat} (h : Has w b o) (b' o' : Nat) (x : Value) : Has (w.setCell ⟨b', o', none⟩ x) b o := by
  obtain ⟨v, h⟩ := h
  by_cases e : b' = b ∧ o' = o
  · obtain ⟨rfl, rfl⟩ := e
    exact ⟨x, h.same x⟩
  · exact ⟨v, h.other (fun e1 e2 => e ⟨e1, e2⟩) x⟩

/-- The end of a player: the answer's four cells are stored once more and read. -/
theorem ret45 {fn : Func} {R : Ending → World → Prop} {a : Act} {W : World} {pa : Nat} {v0 v1 v2 v3 : Value} (hres : fn.results = #[.cell 4 45]) (ht : a.tmps.getD 4 undef = .pointer (some ⟨pa, 0, none⟩)) (hd : a.defers = [])
    (h0 : Has W pa 0) (h1 : Has W pa 1) (h2 : Has W pa 2) (h3 : Has W pa 3)
    (hR : R (.returned (.agg #[v0, v1, v2, v3])) ((((W.setCell ⟨pa, 0, none⟩ v0).setCell ⟨pa, 1, none⟩ v1).setCell ⟨pa, 2, none⟩ v2).setCell ⟨pa, 3, none⟩ v3)) :
    bodyPost Try.prog fn R .ret a ((((W.setCell ⟨pa, 0, none⟩ v0).setCell ⟨pa, 1, none⟩ v1).setCell ⟨pa, 2, none⟩ v2).setCell ⟨pa, 3, none⟩ v3) := by
  obtain ⟨_, a0⟩ := h0
  obtain ⟨_, a1⟩ := h1
  obtain ⟨_, a2⟩ := h2
  obtain ⟨_, a3⟩ := h3
  have z0 := ((((a0.same v0).other (b' := pa) (o' := 1) (by omega) v1).other (b' := pa) (o' := 2) (by omega) v2).other (b' := pa) (o' := 3) (by omega) v3).c
  have z1 := ((((a1.other (b' := pa) (o' := 0) (by omega) v0).same v1).other (b' := pa) (o' := 2) (by omega) v2).other (b' := pa) (o' := 3) (by omega) v3).c
  have z2 := ((((a2.other (b' := pa) (o' := 0) (by omega) v0).other (b' := pa) (o' := 1) (by omega) v1).same v2).other (b' := pa) (o' := 3) (by omega) v3).c
  have z3 := ((((a3.other (b' := pa) (o' := 0) (by omega) v0).other (b' := pa) (o' := 1) (by omega) v1).other (b' := pa) (o' := 2) (by omega) v2).same v3).c
  generalize (((W.setCell ⟨pa, 0, none⟩ v0).setCell ⟨pa, 1, none⟩ v1).setCell ⟨pa, 2, none⟩ v2).setCell ⟨pa, 3, none⟩ v3 = W4 at *
  have ht' : a.tmps[4]?.getD undef = .pointer (some ⟨pa, 0, none⟩) := by simpa using ht
  refine ⟨hd, _, ?_, hR⟩
  simp [results, hres, go_sem, ht', z0, z1, z2, z3]

theorem S1_not {w : World} {bM : Nat} {s : L.St} (h : MT w bM s) {i : Nat} (hi : w.heap.size ≤ i) : ¬ S1 bM i := by
  have := h.lt
  unfold S1
  omega

theorem do_clear {w : World} {bT bC bR : Nat} {s : L.St} (h : RT w bT bC bR s) (o : Stp) (hk : o.kind = 2) :
    Calls Try.prog 22 #[.pointer (some ⟨bT, 0, none⟩), o.val] w fun e w' => e = .returned (doV s o) ∧ RT w' bT bC bR (doS s o) ∧ Fr (S3 bT bC bR) w w' := by
  obtain ⟨kind, a, b, c, os, ot⟩ := o
  simp only at hk
  subst hk
  have hS : ∀ i, w.heap.size ≤ i → ¬ S3 bT bC bR i := fun i hi => S3_not h hi
  have hA := clear_any ((h.alloc (.cells #[.int .i64 2, .int .i64 a, .int .i64 b, .int .i64 c, .string os, .string ot] 43)).alloc (.cells #[.int .i64 0, .int .i64 0, .int .i64 0, .string ⟨#[]⟩] 45))
  have hV : doV s ⟨2, a, b, c, os, ot⟩ = ansV 0 0 0 [] := by simp [doV, doE, doN, doM, doT]
  have hD : doS s ⟨2, a, b, c, os, ot⟩ = L.clear s := by simp [doS]
  rw [hV, hD]
  clear hV hD
  simp only [Stp.val]
  have HA := hid hA
  clear hA h
  go_enter Try.func22, Try.ntmps22
  go_wp2_with fail
  refine HA.out.mono ?_
  rintro e w1 ⟨rfl, hr, hf⟩
  obtain ⟨q0, q1, q2, q3, hfw, hsz⟩ := box2 hS hf
  have HR := hid hr
  have HW := hid hfw
  have HS := hid (hS (w.heap.size + 1) (by omega))
  have HB : Hid (w.heap.size ≤ w.heap.size + 1) := by unfold Hid; omega
  clear hr hf hfw HA hS
  generalize w.heap.size + 1 = pa at *
  have c0 := q0.c
  have c1 := q1.c
  have c2 := q2.c
  have c3 := q3.c
  have f0 := q0.f
  have f1 := q1.f
  have f2 := q2.f
  have f3 := q3.f
  go_wp2_with fail
  refine ret45 Try.results22 rfl rfl ?_ ?_ ?_ ?_ ⟨by simp [ansV, L.bs], ?_, ?_⟩
  · exact q0.has
  · exact q1.has
  · exact q2.has
  · exact q3.has
  · exact ((((HR.out.setS _ _ HS.out).setS _ _ HS.out).setS _ _ HS.out).setS _ _ HS.out)
  · exact ((((HW.out.setN HB.out _ _).setN HB.out _ _).setN HB.out _ _).setN HB.out _ _)

theorem do_acq {w : World} {bT bC bR : Nat} {s : L.St} (h : RT w bT bC bR s) (o : Stp) (hk : o.kind = 3) :
    Calls Try.prog 22 #[.pointer (some ⟨bT, 0, none⟩), o.val] w fun e w' => e = .returned (doV s o) ∧ RT w' bT bC bR (doS s o) ∧ Fr (S3 bT bC bR) w w' := by
  obtain ⟨kind, a, b, c, os, ot⟩ := o
  simp only at hk
  subst hk
  have hS : ∀ i, w.heap.size ≤ i → ¬ S3 bT bC bR i := fun i hi => S3_not h hi
  have hA := acquire_any ((h.alloc (.cells #[.int .i64 3, .int .i64 a, .int .i64 b, .int .i64 c, .string os, .string ot] 43)).alloc (.cells #[.int .i64 0, .int .i64 0, .int .i64 0, .string ⟨#[]⟩] 45)) a
  have hV : doV s ⟨3, a, b, c, os, ot⟩ = ansV (L.acq s a).2.1 (L.acq s a).1 0 [] := by simp [doV, doE, doN, doM, doT]
  have hD : doS s ⟨3, a, b, c, os, ot⟩ = (L.acq s a).2.2 := by simp [doS]
  rw [hV, hD]
  clear hV hD
  simp only [Stp.val]
  have HA := hid hA
  clear hA h
  go_enter Try.func22, Try.ntmps22
  go_wp2_with fail
  refine HA.out.mono ?_
  rintro e w1 ⟨rfl, hr, hf⟩
  obtain ⟨q0, q1, q2, q3, hfw, hsz⟩ := box2 hS hf
  have HR := hid hr
  have HW := hid hfw
  have HS := hid (hS (w.heap.size + 1) (by omega))
  have HB : Hid (w.heap.size ≤ w.heap.size + 1) := by unfold Hid; omega
  clear hr hf hfw HA hS
  generalize w.heap.size + 1 = pa at *
  have c0 := q0.c
  have c1 := q1.c
  have c2 := q2.c
  have c3 := q3.c
  have f0 := q0.f
  have f1 := q1.f
  have f2 := q2.f
  have f3 := q3.f
  go_wp2_with fail
  refine ret45 Try.results22 rfl rfl ?_ ?_ ?_ ?_ ⟨by simp [ansV, L.bs], ?_, ?_⟩
  · exact ((q0.has.set _ _ _).set _ _ _)
  · exact ((q1.has.set _ _ _).set _ _ _)
  · exact ((q2.has.set _ _ _).set _ _ _)
  · exact ((q3.has.set _ _ _).set _ _ _)
  · exact ((((((HR.out.setS _ _ HS.out).setS _ _ HS.out).setS _ _ HS.out).setS _ _ HS.out).setS _ _ HS.out).setS _ _ HS.out)
  · exact ((((((HW.out.setN HB.out _ _).setN HB.out _ _).setN HB.out _ _).setN HB.out _ _).setN HB.out _ _).setN HB.out _ _)

theorem do_rel {w : World} {bT bC bR : Nat} {s : L.St} (h : RT w bT bC bR s) (o : Stp) (hk : o.kind = 4) :
    Calls Try.prog 22 #[.pointer (some ⟨bT, 0, none⟩), o.val] w fun e w' => e = .returned (doV s o) ∧ RT w' bT bC bR (doS s o) ∧ Fr (S3 bT bC bR) w w' := by
  obtain ⟨kind, a, b, c, os, ot⟩ := o
  simp only at hk
  subst hk
  have hS : ∀ i, w.heap.size ≤ i → ¬ S3 bT bC bR i := fun i hi => S3_not h hi
  have hA := release_any ((h.alloc (.cells #[.int .i64 4, .int .i64 a, .int .i64 b, .int .i64 c, .string os, .string ot] 43)).alloc (.cells #[.int .i64 0, .int .i64 0, .int .i64 0, .string ⟨#[]⟩] 45)) a
  have hV : doV s ⟨4, a, b, c, os, ot⟩ = ansV (L.rel s a).1 0 0 [] := by simp [doV, doE, doN, doM, doT]
  have hD : doS s ⟨4, a, b, c, os, ot⟩ = (L.rel s a).2 := by simp [doS]
  rw [hV, hD]
  clear hV hD
  simp only [Stp.val]
  have HA := hid hA
  clear hA h
  go_enter Try.func22, Try.ntmps22
  go_wp2_with fail
  refine HA.out.mono ?_
  rintro e w1 ⟨rfl, hr, hf⟩
  obtain ⟨q0, q1, q2, q3, hfw, hsz⟩ := box2 hS hf
  have HR := hid hr
  have HW := hid hfw
  have HS := hid (hS (w.heap.size + 1) (by omega))
  have HB : Hid (w.heap.size ≤ w.heap.size + 1) := by unfold Hid; omega
  clear hr hf hfw HA hS
  generalize w.heap.size + 1 = pa at *
  have c0 := q0.c
  have c1 := q1.c
  have c2 := q2.c
  have c3 := q3.c
  have f0 := q0.f
  have f1 := q1.f
  have f2 := q2.f
  have f3 := q3.f
  go_wp2_with fail
  refine ret45 Try.results22 rfl rfl ?_ ?_ ?_ ?_ ⟨by simp [ansV, L.bs], ?_, ?_⟩
  · exact (q0.has.set _ _ _)
  · exact (q1.has.set _ _ _)
  · exact (q2.has.set _ _ _)
  · exact (q3.has.set _ _ _)
  · exact (((((HR.out.setS _ _ HS.out).setS _ _ HS.out).setS _ _ HS.out).setS _ _ HS.out).setS _ _ HS.out)
  · exact (((((HW.out.setN HB.out _ _).setN HB.out _ _).setN HB.out _ _).setN HB.out _ _).setN HB.out _ _)

theorem do_pair {w : World} {bT bC bR : Nat} {s : L.St} (h : RT w bT bC bR s) (o : Stp) (hk : o.kind = 5) :
    Calls Try.prog 22 #[.pointer (some ⟨bT, 0, none⟩), o.val] w fun e w' => e = .returned (doV s o) ∧ RT w' bT bC bR (doS s o) ∧ Fr (S3 bT bC bR) w w' := by
  obtain ⟨kind, a, b, c, os, ot⟩ := o
  simp only at hk
  subst hk
  have hS : ∀ i, w.heap.size ≤ i → ¬ S3 bT bC bR i := fun i hi => S3_not h hi
  have hA := pair_any ((h.alloc (.cells #[.int .i64 5, .int .i64 a, .int .i64 b, .int .i64 c, .string os, .string ot] 43)).alloc (.cells #[.int .i64 0, .int .i64 0, .int .i64 0, .string ⟨#[]⟩] 45)) a b
  have hV : doV s ⟨5, a, b, c, os, ot⟩ = ansV (L.pair s a b).2.2.1 (L.pair s a b).1 (L.pair s a b).2.1 [] := by simp [doV, doE, doN, doM, doT]
  have hD : doS s ⟨5, a, b, c, os, ot⟩ = (L.pair s a b).2.2.2 := by simp [doS]
  rw [hV, hD]
  clear hV hD
  simp only [Stp.val]
  have HA := hid hA
  clear hA h
  go_enter Try.func22, Try.ntmps22
  go_wp2_with fail
  refine HA.out.mono ?_
  rintro e w1 ⟨rfl, hr, hf⟩
  obtain ⟨q0, q1, q2, q3, hfw, hsz⟩ := box2 hS hf
  have HR := hid hr
  have HW := hid hfw
  have HS := hid (hS (w.heap.size + 1) (by omega))
  have HB : Hid (w.heap.size ≤ w.heap.size + 1) := by unfold Hid; omega
  clear hr hf hfw HA hS
  generalize w.heap.size + 1 = pa at *
  have c0 := q0.c
  have c1 := q1.c
  have c2 := q2.c
  have c3 := q3.c
  have f0 := q0.f
  have f1 := q1.f
  have f2 := q2.f
  have f3 := q3.f
  go_wp2_with fail
  refine ret45 Try.results22 rfl rfl ?_ ?_ ?_ ?_ ⟨by simp [ansV, L.bs], ?_, ?_⟩
  · exact (((q0.has.set _ _ _).set _ _ _).set _ _ _)
  · exact (((q1.has.set _ _ _).set _ _ _).set _ _ _)
  · exact (((q2.has.set _ _ _).set _ _ _).set _ _ _)
  · exact (((q3.has.set _ _ _).set _ _ _).set _ _ _)
  · exact (((((((HR.out.setS _ _ HS.out).setS _ _ HS.out).setS _ _ HS.out).setS _ _ HS.out).setS _ _ HS.out).setS _ _ HS.out).setS _ _ HS.out)
  · exact (((((((HW.out.setN HB.out _ _).setN HB.out _ _).setN HB.out _ _).setN HB.out _ _).setN HB.out _ _).setN HB.out _ _).setN HB.out _ _)

theorem do_all {w : World} {bT bC bR : Nat} {s : L.St} (h : RT w bT bC bR s) (o : Stp) (hk : o.kind = 6) :
    Calls Try.prog 22 #[.pointer (some ⟨bT, 0, none⟩), o.val] w fun e w' => e = .returned (doV s o) ∧ RT w' bT bC bR (doS s o) ∧ Fr (S3 bT bC bR) w w' := by
  obtain ⟨kind, a, b, c, os, ot⟩ := o
  simp only at hk
  subst hk
  have hS : ∀ i, w.heap.size ≤ i → ¬ S3 bT bC bR i := fun i hi => S3_not h hi
  have hA := all_any ((h.alloc (.cells #[.int .i64 6, .int .i64 a, .int .i64 b, .int .i64 c, .string os, .string ot] 43)).alloc (.cells #[.int .i64 0, .int .i64 0, .int .i64 0, .string ⟨#[]⟩] 45))
  have hV : doV s ⟨6, a, b, c, os, ot⟩ = ansV 0 ((L.allTo 4 s).1 : Int) 0 [] := by simp [doV, doE, doN, doM, doT]
  have hD : doS s ⟨6, a, b, c, os, ot⟩ = (L.allTo 4 s).2 := by simp [doS]
  rw [hV, hD]
  clear hV hD
  simp only [Stp.val]
  have HA := hid hA
  clear hA h
  go_enter Try.func22, Try.ntmps22
  go_wp2_with fail
  refine HA.out.mono ?_
  rintro e w1 ⟨rfl, hr, hf⟩
  obtain ⟨q0, q1, q2, q3, hfw, hsz⟩ := box2 hS hf
  have HR := hid hr
  have HW := hid hfw
  have HS := hid (hS (w.heap.size + 1) (by omega))
  have HB : Hid (w.heap.size ≤ w.heap.size + 1) := by unfold Hid; omega
  clear hr hf hfw HA hS
  generalize w.heap.size + 1 = pa at *
  have c0 := q0.c
  have c1 := q1.c
  have c2 := q2.c
  have c3 := q3.c
  have f0 := q0.f
  have f1 := q1.f
  have f2 := q2.f
  have f3 := q3.f
  go_wp2_with fail
  refine ret45 Try.results22 rfl rfl ?_ ?_ ?_ ?_ ⟨by simp [ansV, L.bs], ?_, ?_⟩
  · exact (q0.has.set _ _ _)
  · exact (q1.has.set _ _ _)
  · exact (q2.has.set _ _ _)
  · exact (q3.has.set _ _ _)
  · exact (((((HR.out.setS _ _ HS.out).setS _ _ HS.out).setS _ _ HS.out).setS _ _ HS.out).setS _ _ HS.out)
  · exact (((((HW.out.setN HB.out _ _).setN HB.out _ _).setN HB.out _ _).setN HB.out _ _).setN HB.out _ _)

theorem do_held {w : World} {bT bC bR : Nat} {s : L.St} (h : RT w bT bC bR s) (o : Stp) (hk : o.kind = 7) :
    Calls Try.prog 22 #[.pointer (some ⟨bT, 0, none⟩), o.val] w fun e w' => e = .returned (doV s o) ∧ RT w' bT bC bR (doS s o) ∧ Fr (S3 bT bC bR) w w' := by
  obtain ⟨kind, a, b, c, os, ot⟩ := o
  simp only at hk
  subst hk
  have hS : ∀ i, w.heap.size ≤ i → ¬ S3 bT bC bR i := fun i hi => S3_not h hi
  have hA := held_any ((h.alloc (.cells #[.int .i64 7, .int .i64 a, .int .i64 b, .int .i64 c, .string os, .string ot] 43)).alloc (.cells #[.int .i64 0, .int .i64 0, .int .i64 0, .string ⟨#[]⟩] 45))
  have hV : doV s ⟨7, a, b, c, os, ot⟩ = ansV 0 (s.cnt : Int) 0 [] := by simp [doV, doE, doN, doM, doT]
  have hD : doS s ⟨7, a, b, c, os, ot⟩ = s := by simp [doS]
  rw [hV, hD]
  clear hV hD
  simp only [Stp.val]
  have HA := hid hA
  have HW0 := hid ((h.alloc (.cells #[.int .i64 7, .int .i64 a, .int .i64 b, .int .i64 c, .string os, .string ot] 43)).alloc (.cells #[.int .i64 0, .int .i64 0, .int .i64 0, .string ⟨#[]⟩] 45))
  clear hA h
  go_enter Try.func22, Try.ntmps22
  go_wp2_with fail
  refine HA.out.mono ?_
  rintro e w1 ⟨rfl, hw1⟩
  have hf := fr_of_eq (S3 bT bC bR) hw1
  have hr := HW0.out
  rw [← hw1] at hr
  clear HW0 hw1
  obtain ⟨q0, q1, q2, q3, hfw, hsz⟩ := box2 hS hf
  have HR := hid hr
  have HW := hid hfw
  have HS := hid (hS (w.heap.size + 1) (by omega))
  have HB : Hid (w.heap.size ≤ w.heap.size + 1) := by unfold Hid; omega
  clear hr hf hfw HA hS
  generalize w.heap.size + 1 = pa at *
  have c0 := q0.c
  have c1 := q1.c
  have c2 := q2.c
  have c3 := q3.c
  have f0 := q0.f
  have f1 := q1.f
  have f2 := q2.f
  have f3 := q3.f
  go_wp2_with fail
  refine ret45 Try.results22 rfl rfl ?_ ?_ ?_ ?_ ⟨by simp [ansV, L.bs], ?_, ?_⟩
  · exact (q0.has.set _ _ _)
  · exact (q1.has.set _ _ _)
  · exact (q2.has.set _ _ _)
  · exact (q3.has.set _ _ _)
  · exact (((((HR.out.setS _ _ HS.out).setS _ _ HS.out).setS _ _ HS.out).setS _ _ HS.out).setS _ _ HS.out)
  · exact (((((HW.out.setN HB.out _ _).setN HB.out _ _).setN HB.out _ _).setN HB.out _ _).setN HB.out _ _)

theorem do_show {w : World} {bT bC bR : Nat} {s : L.St} (h : RT w bT bC bR s) (o : Stp) (hk : o.kind = 8) :
    Calls Try.prog 22 #[.pointer (some ⟨bT, 0, none⟩), o.val] w fun e w' => e = .returned (doV s o) ∧ RT w' bT bC bR (doS s o) ∧ Fr (S3 bT bC bR) w w' := by
  obtain ⟨kind, a, b, c, os, ot⟩ := o
  simp only at hk
  subst hk
  have hS : ∀ i, w.heap.size ≤ i → ¬ S3 bT bC bR i := fun i hi => S3_not h hi
  have hA := show_any ((h.alloc (.cells #[.int .i64 8, .int .i64 a, .int .i64 b, .int .i64 c, .string os, .string ot] 43)).alloc (.cells #[.int .i64 0, .int .i64 0, .int .i64 0, .string ⟨#[]⟩] 45))
  have hV : doV s ⟨8, a, b, c, os, ot⟩ = ansV 0 0 0 (L.showL s) := by simp [doV, doE, doN, doM, doT]
  have hD : doS s ⟨8, a, b, c, os, ot⟩ = s := by simp [doS]
  rw [hV, hD]
  clear hV hD
  simp only [Stp.val]
  have HA := hid hA
  have HW0 := hid ((h.alloc (.cells #[.int .i64 8, .int .i64 a, .int .i64 b, .int .i64 c, .string os, .string ot] 43)).alloc (.cells #[.int .i64 0, .int .i64 0, .int .i64 0, .string ⟨#[]⟩] 45))
  clear hA h
  go_enter Try.func22, Try.ntmps22
  go_wp2_with fail
  refine HA.out.mono ?_
  rintro e w1 ⟨rfl, hf0⟩
  have hf : Fr (S3 bT bC bR) _ w1 := hf0.mono (fun _ _ f => f.elim)
  have hr := HW0.out.fr hf0 (fun f => f) (fun f => f) (fun f => f)
  clear HW0 hf0
  obtain ⟨q0, q1, q2, q3, hfw, hsz⟩ := box2 hS hf
  have HR := hid hr
  have HW := hid hfw
  have HS := hid (hS (w.heap.size + 1) (by omega))
  have HB : Hid (w.heap.size ≤ w.heap.size + 1) := by unfold Hid; omega
  clear hr hf hfw HA hS
  generalize w.heap.size + 1 = pa at *
  have c0 := q0.c
  have c1 := q1.c
  have c2 := q2.c
  have c3 := q3.c
  have f0 := q0.f
  have f1 := q1.f
  have f2 := q2.f
  have f3 := q3.f
  go_wp2_with fail
  refine ret45 Try.results22 rfl rfl ?_ ?_ ?_ ?_ ⟨by simp [ansV, L.bs], ?_, ?_⟩
  · exact (q0.has.set _ _ _)
  · exact (q1.has.set _ _ _)
  · exact (q2.has.set _ _ _)
  · exact (q3.has.set _ _ _)
  · exact (((((HR.out.setS _ _ HS.out).setS _ _ HS.out).setS _ _ HS.out).setS _ _ HS.out).setS _ _ HS.out)
  · exact (((((HW.out.setN HB.out _ _).setN HB.out _ _).setN HB.out _ _).setN HB.out _ _).setN HB.out _ _)

theorem do_check {w : World} {bT bC bR : Nat} {s : L.St} (h : RT w bT bC bR s) (o : Stp) (hk : o.kind = 9) :
    Calls Try.prog 22 #[.pointer (some ⟨bT, 0, none⟩), o.val] w fun e w' => e = .returned (doV s o) ∧ RT w' bT bC bR (doS s o) ∧ Fr (S3 bT bC bR) w w' := by
  obtain ⟨kind, a, b, c, os, ot⟩ := o
  simp only at hk
  subst hk
  have hS : ∀ i, w.heap.size ≤ i → ¬ S3 bT bC bR i := fun i hi => S3_not h hi
  have hA := check_any ((h.alloc (.cells #[.int .i64 9, .int .i64 a, .int .i64 b, .int .i64 c, .string os, .string ot] 43)).alloc (.cells #[.int .i64 0, .int .i64 0, .int .i64 0, .string ⟨#[]⟩] 45))
  have hV : doV s ⟨9, a, b, c, os, ot⟩ = ansV 0 0 0 [] := by simp [doV, doE, doN, doM, doT]
  have hD : doS s ⟨9, a, b, c, os, ot⟩ = s := by simp [doS]
  rw [hV, hD]
  clear hV hD
  simp only [Stp.val]
  have HA := hid hA
  have HW0 := hid ((h.alloc (.cells #[.int .i64 9, .int .i64 a, .int .i64 b, .int .i64 c, .string os, .string ot] 43)).alloc (.cells #[.int .i64 0, .int .i64 0, .int .i64 0, .string ⟨#[]⟩] 45))
  clear hA h
  go_enter Try.func22, Try.ntmps22
  go_wp2_with fail
  refine HA.out.mono ?_
  rintro e w1 ⟨rfl, hf0⟩
  have hf : Fr (S3 bT bC bR) _ w1 := hf0.mono (fun _ _ f => f.elim)
  have hr := HW0.out.fr hf0 (fun f => f) (fun f => f) (fun f => f)
  clear HW0 hf0
  obtain ⟨q0, q1, q2, q3, hfw, hsz⟩ := box2 hS hf
  have HR := hid hr
  have HW := hid hfw
  have HS := hid (hS (w.heap.size + 1) (by omega))
  have HB : Hid (w.heap.size ≤ w.heap.size + 1) := by unfold Hid; omega
  clear hr hf hfw HA hS
  generalize w.heap.size + 1 = pa at *
  have c0 := q0.c
  have c1 := q1.c
  have c2 := q2.c
  have c3 := q3.c
  have f0 := q0.f
  have f1 := q1.f
  have f2 := q2.f
  have f3 := q3.f
  go_wp2_with fail
  refine ret45 Try.results22 rfl rfl ?_ ?_ ?_ ?_ ⟨by simp [ansV, L.bs], ?_, ?_⟩
  · exact q0.has
  · exact q1.has
  · exact q2.has
  · exact q3.has
  · exact ((((HR.out.setS _ _ HS.out).setS _ _ HS.out).setS _ _ HS.out).setS _ _ HS.out)
  · exact ((((HW.out.setN HB.out _ _).setN HB.out _ _).setN HB.out _ _).setN HB.out _ _)

theorem do_any {w : World} {bT bC bR : Nat} {s : L.St} (h : RT w bT bC bR s) (o : Stp) :
    Calls Try.prog 22 #[.pointer (some ⟨bT, 0, none⟩), o.val] w fun e w' => e = .returned (doV s o) ∧ RT w' bT bC bR (doS s o) ∧ Fr (S3 bT bC bR) w w' := by
  by_cases k2 : o.kind = 2
  · exact do_clear h o k2
  by_cases k3 : o.kind = 3
  · exact do_acq h o k3
  by_cases k4 : o.kind = 4
  · exact do_rel h o k4
  by_cases k5 : o.kind = 5
  · exact do_pair h o k5
  by_cases k6 : o.kind = 6
  · exact do_all h o k6
  by_cases k7 : o.kind = 7
  · exact do_held h o k7
  by_cases k8 : o.kind = 8
  · exact do_show h o k8
  by_cases k9 : o.kind = 9
  · exact do_check h o k9
  have hV : doV s o = ansV 0 0 0 [] := by simp [doV, doE, doN, doM, doT, k2, k3, k4, k5, k6, k7, k8]
  have hD : doS s o = s := by simp [doS, k2, k3, k4, k5, k6]
  rw [hV, hD]
  clear hV hD
  obtain ⟨kind, a, b, c, os, ot⟩ := o
  simp only at k2 k3 k4 k5 k6 k7 k8 k9
  simp only [Stp.val]
  have j2 : (kind == 2) = false := beq_eq_false_iff_ne.2 k2
  have j3 : (kind == 3) = false := beq_eq_false_iff_ne.2 k3
  have j4 : (kind == 4) = false := beq_eq_false_iff_ne.2 k4
  have j5 : (kind == 5) = false := beq_eq_false_iff_ne.2 k5
  have j6 : (kind == 6) = false := beq_eq_false_iff_ne.2 k6
  have j7 : (kind == 7) = false := beq_eq_false_iff_ne.2 k7
  have j8 : (kind == 8) = false := beq_eq_false_iff_ne.2 k8
  have j9 : (kind == 9) = false := beq_eq_false_iff_ne.2 k9
  clear k2 k3 k4 k5 k6 k7 k8 k9
  go_enter Try.func22, Try.ntmps22
  go_wp2_with fail
  refine bodyPost_ret (v := ansV 0 0 0 []) (by simp [results, Try.results22, go_sem, ansV, L.bs]) rfl ⟨rfl, ?_, ?_⟩
  · exact (h.alloc _).alloc _
  · exact ((Fr.refl _ _).alloc _).alloc _

theorem dom_clear {w : World} {bM : Nat} {s : L.St} (h : MT w bM s) (o : Stp) (hk : o.kind = 2) :
    Calls Try.prog 35 #[.pointer (some ⟨bM, 0, none⟩), o.val] w fun e w' => e = .returned (doV s o) ∧ MT w' bM (doS s o) ∧ Fr (S1 bM) w w' := by
  obtain ⟨kind, a, b, c, os, ot⟩ := o
  simp only at hk
  subst hk
  have hS : ∀ i, w.heap.size ≤ i → ¬ S1 bM i := fun i hi => S1_not h hi
  have hA := mclear_any ((h.alloc (.cells #[.int .i64 2, .int .i64 a, .int .i64 b, .int .i64 c, .string os, .string ot] 43)).alloc (.cells #[.int .i64 0, .int .i64 0, .int .i64 0, .string ⟨#[]⟩] 45))
  have hV : doV s ⟨2, a, b, c, os, ot⟩ = ansV 0 0 0 [] := by simp [doV, doE, doN, doM, doT]
  have hD : doS s ⟨2, a, b, c, os, ot⟩ = L.clear s := by simp [doS]
  rw [hV, hD]
  clear hV hD
  simp only [Stp.val]
  have HA := hid hA
  clear hA h
  go_enter Try.func35, Try.ntmps35
  go_wp2_with fail
  refine HA.out.mono ?_
  rintro e w1 ⟨rfl, hr, hf⟩
  obtain ⟨q0, q1, q2, q3, hfw, hsz⟩ := box2 hS hf
  have HR := hid hr
  have HW := hid hfw
  have HS := hid (hS (w.heap.size + 1) (by omega))
  have HB : Hid (w.heap.size ≤ w.heap.size + 1) := by unfold Hid; omega
  clear hr hf hfw HA hS
  generalize w.heap.size + 1 = pa at *
  have c0 := q0.c
  have c1 := q1.c
  have c2 := q2.c
  have c3 := q3.c
  have f0 := q0.f
  have f1 := q1.f
  have f2 := q2.f
  have f3 := q3.f
  go_wp2_with fail
  refine ret45 Try.results35 rfl rfl ?_ ?_ ?_ ?_ ⟨by simp [ansV, L.bs], ?_, ?_⟩
  · exact q0.has
  · exact q1.has
  · exact q2.has
  · exact q3.has
  · exact ((((HR.out.setS _ _ HS.out).setS _ _ HS.out).setS _ _ HS.out).setS _ _ HS.out)
  · exact ((((HW.out.setN HB.out _ _).setN HB.out _ _).setN HB.out _ _).setN HB.out _ _)

theorem dom_acq {w : World} {bM : Nat} {s : L.St} (h : MT w bM s) (o : Stp) (hk : o.kind = 3) :
    Calls Try.prog 35 #[.pointer (some ⟨bM, 0, none⟩), o.val] w fun e w' => e = .returned (doV s o) ∧ MT w' bM (doS s o) ∧ Fr (S1 bM) w w' := by
  obtain ⟨kind, a, b, c, os, ot⟩ := o
  simp only at hk
  subst hk
  have hS : ∀ i, w.heap.size ≤ i → ¬ S1 bM i := fun i hi => S1_not h hi
  have hA := macquire_any ((h.alloc (.cells #[.int .i64 3, .int .i64 a, .int .i64 b, .int .i64 c, .string os, .string ot] 43)).alloc (.cells #[.int .i64 0, .int .i64 0, .int .i64 0, .string ⟨#[]⟩] 45)) a
  have hV : doV s ⟨3, a, b, c, os, ot⟩ = ansV (L.acq s a).2.1 (L.acq s a).1 0 [] := by simp [doV, doE, doN, doM, doT]
  have hD : doS s ⟨3, a, b, c, os, ot⟩ = (L.acq s a).2.2 := by simp [doS]
  rw [hV, hD]
  clear hV hD
  simp only [Stp.val]
  have HA := hid hA
  clear hA h
  go_enter Try.func35, Try.ntmps35
  go_wp2_with fail
  refine HA.out.mono ?_
  rintro e w1 ⟨rfl, hr, hf⟩
  obtain ⟨q0, q1, q2, q3, hfw, hsz⟩ := box2 hS hf
  have HR := hid hr
  have HW := hid hfw
  have HS := hid (hS (w.heap.size + 1) (by omega))
  have HB : Hid (w.heap.size ≤ w.heap.size + 1) := by unfold Hid; omega
  clear hr hf hfw HA hS
  generalize w.heap.size + 1 = pa at *
  have c0 := q0.c
  have c1 := q1.c
  have c2 := q2.c
  have c3 := q3.c
  have f0 := q0.f
  have f1 := q1.f
  have f2 := q2.f
  have f3 := q3.f
  go_wp2_with fail
  refine ret45 Try.results35 rfl rfl ?_ ?_ ?_ ?_ ⟨by simp [ansV, L.bs], ?_, ?_⟩
  · exact ((q0.has.set _ _ _).set _ _ _)
  · exact ((q1.has.set _ _ _).set _ _ _)
  · exact ((q2.has.set _ _ _).set _ _ _)
  · exact ((q3.has.set _ _ _).set _ _ _)
  · exact ((((((HR.out.setS _ _ HS.out).setS _ _ HS.out).setS _ _ HS.out).setS _ _ HS.out).setS _ _ HS.out).setS _ _ HS.out)
  · exact ((((((HW.out.setN HB.out _ _).setN HB.out _ _).setN HB.out _ _).setN HB.out _ _).setN HB.out _ _).setN HB.out _ _)

theorem dom_rel {w : World} {bM : Nat} {s : L.St} (h : MT w bM s) (o : Stp) (hk : o.kind = 4) :
    Calls Try.prog 35 #[.pointer (some ⟨bM, 0, none⟩), o.val] w fun e w' => e = .returned (doV s o) ∧ MT w' bM (doS s o) ∧ Fr (S1 bM) w w' := by
  obtain ⟨kind, a, b, c, os, ot⟩ := o
  simp only at hk
  subst hk
  have hS : ∀ i, w.heap.size ≤ i → ¬ S1 bM i := fun i hi => S1_not h hi
  have hA := mrelease_any ((h.alloc (.cells #[.int .i64 4, .int .i64 a, .int .i64 b, .int .i64 c, .string os, .string ot] 43)).alloc (.cells #[.int .i64 0, .int .i64 0, .int .i64 0, .string ⟨#[]⟩] 45)) a
  have hV : doV s ⟨4, a, b, c, os, ot⟩ = ansV (L.rel s a).1 0 0 [] := by simp [doV, doE, doN, doM, doT]
  have hD : doS s ⟨4, a, b, c, os, ot⟩ = (L.rel s a).2 := by simp [doS]
  rw [hV, hD]
  clear hV hD
  simp only [Stp.val]
  have HA := hid hA
  clear hA h
  go_enter Try.func35, Try.ntmps35
  go_wp2_with fail
  refine HA.out.mono ?_
  rintro e w1 ⟨rfl, hr, hf⟩
  obtain ⟨q0, q1, q2, q3, hfw, hsz⟩ := box2 hS hf
  have HR := hid hr
  have HW := hid hfw
  have HS := hid (hS (w.heap.size + 1) (by omega))
  have HB : Hid (w.heap.size ≤ w.heap.size + 1) := by unfold Hid; omega
  clear hr hf hfw HA hS
  generalize w.heap.size + 1 = pa at *
  have c0 := q0.c
  have c1 := q1.c
  have c2 := q2.c
  have c3 := q3.c
  have f0 := q0.f
  have f1 := q1.f
  have f2 := q2.f
  have f3 := q3.f
  go_wp2_with fail
  refine ret45 Try.results35 rfl rfl ?_ ?_ ?_ ?_ ⟨by simp [ansV, L.bs], ?_, ?_⟩
  · exact (q0.has.set _ _ _)
  · exact (q1.has.set _ _ _)
  · exact (q2.has.set _ _ _)
  · exact (q3.has.set _ _ _)
  · exact (((((HR.out.setS _ _ HS.out).setS _ _ HS.out).setS _ _ HS.out).setS _ _ HS.out).setS _ _ HS.out)
  · exact (((((HW.out.setN HB.out _ _).setN HB.out _ _).setN HB.out _ _).setN HB.out _ _).setN HB.out _ _)

theorem dom_pair {w : World} {bM : Nat} {s : L.St} (h : MT w bM s) (o : Stp) (hk : o.kind = 5) :
    Calls Try.prog 35 #[.pointer (some ⟨bM, 0, none⟩), o.val] w fun e w' => e = .returned (doV s o) ∧ MT w' bM (doS s o) ∧ Fr (S1 bM) w w' := by
  obtain ⟨kind, a, b, c, os, ot⟩ := o
  simp only at hk
  subst hk
  have hS : ∀ i, w.heap.size ≤ i → ¬ S1 bM i := fun i hi => S1_not h hi
  have hA := mpair_any ((h.alloc (.cells #[.int .i64 5, .int .i64 a, .int .i64 b, .int .i64 c, .string os, .string ot] 43)).alloc (.cells #[.int .i64 0, .int .i64 0, .int .i64 0, .string ⟨#[]⟩] 45)) a b
  have hV : doV s ⟨5, a, b, c, os, ot⟩ = ansV (L.pair s a b).2.2.1 (L.pair s a b).1 (L.pair s a b).2.1 [] := by simp [doV, doE, doN, doM, doT]
  have hD : doS s ⟨5, a, b, c, os, ot⟩ = (L.pair s a b).2.2.2 := by simp [doS]
  rw [hV, hD]
  clear hV hD
  simp only [Stp.val]
  have HA := hid hA
  clear hA h
  go_enter Try.func35, Try.ntmps35
  go_wp2_with fail
  refine HA.out.mono ?_
  rintro e w1 ⟨rfl, hr, hf⟩
  obtain ⟨q0, q1, q2, q3, hfw, hsz⟩ := box2 hS hf
  have HR := hid hr
  have HW := hid hfw
  have HS := hid (hS (w.heap.size + 1) (by omega))
  have HB : Hid (w.heap.size ≤ w.heap.size + 1) := by unfold Hid; omega
  clear hr hf hfw HA hS
  generalize w.heap.size + 1 = pa at *
  have c0 := q0.c
  have c1 := q1.c
  have c2 := q2.c
  have c3 := q3.c
  have f0 := q0.f
  have f1 := q1.f
  have f2 := q2.f
  have f3 := q3.f
  go_wp2_with fail
  refine ret45 Try.results35 rfl rfl ?_ ?_ ?_ ?_ ⟨by simp [ansV, L.bs], ?_, ?_⟩
  · exact (((q0.has.set _ _ _).set _ _ _).set _ _ _)
  · exact (((q1.has.set _ _ _).set _ _ _).set _ _ _)
  · exact (((q2.has.set _ _ _).set _ _ _).set _ _ _)
  · exact (((q3.has.set _ _ _).set _ _ _).set _ _ _)
  · exact (((((((HR.out.setS _ _ HS.out).setS _ _ HS.out).setS _ _ HS.out).setS _ _ HS.out).setS _ _ HS.out).setS _ _ HS.out).setS _ _ HS.out)
  · exact (((((((HW.out.setN HB.out _ _).setN HB.out _ _).setN HB.out _ _).setN HB.out _ _).setN HB.out _ _).setN HB.out _ _).setN HB.out _ _)

theorem dom_all {w : World} {bM : Nat} {s : L.St} (h : MT w bM s) (o : Stp) (hk : o.kind = 6) :
    Calls Try.prog 35 #[.pointer (some ⟨bM, 0, none⟩), o.val] w fun e w' => e = .returned (doV s o) ∧ MT w' bM (doS s o) ∧ Fr (S1 bM) w w' := by
  obtain ⟨kind, a, b, c, os, ot⟩ := o
  simp only at hk
  subst hk
  have hS : ∀ i, w.heap.size ≤ i → ¬ S1 bM i := fun i hi => S1_not h hi
  have hA := mall_any ((h.alloc (.cells #[.int .i64 6, .int .i64 a, .int .i64 b, .int .i64 c, .string os, .string ot] 43)).alloc (.cells #[.int .i64 0, .int .i64 0, .int .i64 0, .string ⟨#[]⟩] 45))
  have hV : doV s ⟨6, a, b, c, os, ot⟩ = ansV 0 ((L.allTo 4 s).1 : Int) 0 [] := by simp [doV, doE, doN, doM, doT]
  have hD : doS s ⟨6, a, b, c, os, ot⟩ = (L.allTo 4 s).2 := by simp [doS]
  rw [hV, hD]
  clear hV hD
  simp only [Stp.val]
  have HA := hid hA
  clear hA h
  go_enter Try.func35, Try.ntmps35
  go_wp2_with fail
  refine HA.out.mono ?_
  rintro e w1 ⟨rfl, hr, hf⟩
  obtain ⟨q0, q1, q2, q3, hfw, hsz⟩ := box2 hS hf
  have HR := hid hr
  have HW := hid hfw
  have HS := hid (hS (w.heap.size + 1) (by omega))
  have HB : Hid (w.heap.size ≤ w.heap.size + 1) := by unfold Hid; omega
  clear hr hf hfw HA hS
  generalize w.heap.size + 1 = pa at *
  have c0 := q0.c
  have c1 := q1.c
  have c2 := q2.c
  have c3 := q3.c
  have f0 := q0.f
  have f1 := q1.f
  have f2 := q2.f
  have f3 := q3.f
  go_wp2_with fail
  refine ret45 Try.results35 rfl rfl ?_ ?_ ?_ ?_ ⟨by simp [ansV, L.bs], ?_, ?_⟩
  · exact (q0.has.set _ _ _)
  · exact (q1.has.set _ _ _)
  · exact (q2.has.set _ _ _)
  · exact (q3.has.set _ _ _)
  · exact (((((HR.out.setS _ _ HS.out).setS _ _ HS.out).setS _ _ HS.out).setS _ _ HS.out).setS _ _ HS.out)
  · exact (((((HW.out.setN HB.out _ _).setN HB.out _ _).setN HB.out _ _).setN HB.out _ _).setN HB.out _ _)

theorem dom_held {w : World} {bM : Nat} {s : L.St} (h : MT w bM s) (o : Stp) (hk : o.kind = 7) :
    Calls Try.prog 35 #[.pointer (some ⟨bM, 0, none⟩), o.val] w fun e w' => e = .returned (doV s o) ∧ MT w' bM (doS s o) ∧ Fr (S1 bM) w w' := by
  obtain ⟨kind, a, b, c, os, ot⟩ := o
  simp only at hk
  subst hk
  have hS : ∀ i, w.heap.size ≤ i → ¬ S1 bM i := fun i hi => S1_not h hi
  have hA := mheld_any ((h.alloc (.cells #[.int .i64 7, .int .i64 a, .int .i64 b, .int .i64 c, .string os, .string ot] 43)).alloc (.cells #[.int .i64 0, .int .i64 0, .int .i64 0, .string ⟨#[]⟩] 45))
  have hV : doV s ⟨7, a, b, c, os, ot⟩ = ansV 0 (s.cnt : Int) 0 [] := by simp [doV, doE, doN, doM, doT]
  have hD : doS s ⟨7, a, b, c, os, ot⟩ = s := by simp [doS]
  rw [hV, hD]
  clear hV hD
  simp only [Stp.val]
  have HA := hid hA
  have HW0 := hid ((h.alloc (.cells #[.int .i64 7, .int .i64 a, .int .i64 b, .int .i64 c, .string os, .string ot] 43)).alloc (.cells #[.int .i64 0, .int .i64 0, .int .i64 0, .string ⟨#[]⟩] 45))
  clear hA h
  go_enter Try.func35, Try.ntmps35
  go_wp2_with fail
  refine HA.out.mono ?_
  rintro e w1 ⟨rfl, hw1⟩
  have hf := fr_of_eq (S1 bM) hw1
  have hr := HW0.out
  rw [← hw1] at hr
  clear HW0 hw1
  obtain ⟨q0, q1, q2, q3, hfw, hsz⟩ := box2 hS hf
  have HR := hid hr
  have HW := hid hfw
  have HS := hid (hS (w.heap.size + 1) (by omega))
  have HB : Hid (w.heap.size ≤ w.heap.size + 1) := by unfold Hid; omega
  clear hr hf hfw HA hS
  generalize w.heap.size + 1 = pa at *
  have c0 := q0.c
  have c1 := q1.c
  have c2 := q2.c
  have c3 := q3.c
  have f0 := q0.f
  have f1 := q1.f
  have f2 := q2.f
  have f3 := q3.f
  go_wp2_with fail
  refine ret45 Try.results35 rfl rfl ?_ ?_ ?_ ?_ ⟨by simp [ansV, L.bs], ?_, ?_⟩
  · exact (q0.has.set _ _ _)
  · exact (q1.has.set _ _ _)
  · exact (q2.has.set _ _ _)
  · exact (q3.has.set _ _ _)
  · exact (((((HR.out.setS _ _ HS.out).setS _ _ HS.out).setS _ _ HS.out).setS _ _ HS.out).setS _ _ HS.out)
  · exact (((((HW.out.setN HB.out _ _).setN HB.out _ _).setN HB.out _ _).setN HB.out _ _).setN HB.out _ _)

theorem dom_show {w : World} {bM : Nat} {s : L.St} (h : MT w bM s) (o : Stp) (hk : o.kind = 8) :
    Calls Try.prog 35 #[.pointer (some ⟨bM, 0, none⟩), o.val] w fun e w' => e = .returned (doV s o) ∧ MT w' bM (doS s o) ∧ Fr (S1 bM) w w' := by
  obtain ⟨kind, a, b, c, os, ot⟩ := o
  simp only at hk
  subst hk
  have hS : ∀ i, w.heap.size ≤ i → ¬ S1 bM i := fun i hi => S1_not h hi
  have hA := mshow_any ((h.alloc (.cells #[.int .i64 8, .int .i64 a, .int .i64 b, .int .i64 c, .string os, .string ot] 43)).alloc (.cells #[.int .i64 0, .int .i64 0, .int .i64 0, .string ⟨#[]⟩] 45))
  have hV : doV s ⟨8, a, b, c, os, ot⟩ = ansV 0 0 0 (L.showL s) := by simp [doV, doE, doN, doM, doT]
  have hD : doS s ⟨8, a, b, c, os, ot⟩ = s := by simp [doS]
  rw [hV, hD]
  clear hV hD
  simp only [Stp.val]
  have HA := hid hA
  have HW0 := hid ((h.alloc (.cells #[.int .i64 8, .int .i64 a, .int .i64 b, .int .i64 c, .string os, .string ot] 43)).alloc (.cells #[.int .i64 0, .int .i64 0, .int .i64 0, .string ⟨#[]⟩] 45))
  clear hA h
  go_enter Try.func35, Try.ntmps35
  go_wp2_with fail
  refine HA.out.mono ?_
  rintro e w1 ⟨rfl, hf0⟩
  have hf : Fr (S1 bM) _ w1 := hf0.mono (fun _ _ f => f.elim)
  have hr := HW0.out.fr hf0 (fun f => f)
  clear HW0 hf0
  obtain ⟨q0, q1, q2, q3, hfw, hsz⟩ := box2 hS hf
  have HR := hid hr
  have HW := hid hfw
  have HS := hid (hS (w.heap.size + 1) (by omega))
  have HB : Hid (w.heap.size ≤ w.heap.size + 1) := by unfold Hid; omega
  clear hr hf hfw HA hS
  generalize w.heap.size + 1 = pa at *
  have c0 := q0.c
  have c1 := q1.c
  have c2 := q2.c
  have c3 := q3.c
  have f0 := q0.f
  have f1 := q1.f
  have f2 := q2.f
  have f3 := q3.f
  go_wp2_with fail
  refine ret45 Try.results35 rfl rfl ?_ ?_ ?_ ?_ ⟨by simp [ansV, L.bs], ?_, ?_⟩
  · exact (q0.has.set _ _ _)
  · exact (q1.has.set _ _ _)
  · exact (q2.has.set _ _ _)
  · exact (q3.has.set _ _ _)
  · exact (((((HR.out.setS _ _ HS.out).setS _ _ HS.out).setS _ _ HS.out).setS _ _ HS.out).setS _ _ HS.out)
  · exact (((((HW.out.setN HB.out _ _).setN HB.out _ _).setN HB.out _ _).setN HB.out _ _).setN HB.out _ _)

theorem dom_any {w : World} {bM : Nat} {s : L.St} (h : MT w bM s) (o : Stp) :
    Calls Try.prog 35 #[.pointer (some ⟨bM, 0, none⟩), o.val] w fun e w' => e = .returned (doV s o) ∧ MT w' bM (doS s o) ∧ Fr (S1 bM) w w' := by
  by_cases k2 : o.kind = 2
  · exact dom_clear h o k2
  by_cases k3 : o.kind = 3
  · exact dom_acq h o k3
  by_cases k4 : o.kind = 4
  · exact dom_rel h o k4
  by_cases k5 : o.kind = 5
  · exact dom_pair h o k5
  by_cases k6 : o.kind = 6
  · exact dom_all h o k6
  by_cases k7 : o.kind = 7
  · exact dom_held h o k7
  by_cases k8 : o.kind = 8
  · exact dom_show h o k8
  have hV : doV s o = ansV 0 0 0 [] := by simp [doV, doE, doN, doM, doT, k2, k3, k4, k5, k6, k7, k8]
  have hD : doS s o = s := by simp [doS, k2, k3, k4, k5, k6]
  rw [hV, hD]
  clear hV hD
  obtain ⟨kind, a, b, c, os, ot⟩ := o
  simp only at k2 k3 k4 k5 k6 k7 k8
  simp only [Stp.val]
  have j2 : (kind == 2) = false := beq_eq_false_iff_ne.2 k2
  have j3 : (kind == 3) = false := beq_eq_false_iff_ne.2 k3
  have j4 : (kind == 4) = false := beq_eq_false_iff_ne.2 k4
  have j5 : (kind == 5) = false := beq_eq_false_iff_ne.2 k5
  have j6 : (kind == 6) = false := beq_eq_false_iff_ne.2 k6
  have j7 : (kind == 7) = false := beq_eq_false_iff_ne.2 k7
  have j8 : (kind == 8) = false := beq_eq_false_iff_ne.2 k8
  clear k2 k3 k4 k5 k6 k7 k8
  go_enter Try.func35, Try.ntmps35
  go_wp2_with fail
  refine bodyPost_ret (v := ansV 0 0 0 []) (by simp [results, Try.results35, go_sem, ansV, L.bs]) rfl ⟨rfl, ?_, ?_⟩
  · exact (h.alloc _).alloc _
  · exact ((Fr.refl _ _).alloc _).alloc _
end Go.Proofs.Qxb6500454a
