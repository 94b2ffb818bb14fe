/- Leaving Batch: the deferred calls. -/
import Derived.Test.Qxb6500452aVCatch
namespace Go.Proofs.Qxb6500452a
open Go Go.RowKit
set_option maxRecDepth 100000
set_option maxHeartbeats 1600000
set_option linter.unusedSimpArgs false
set_option linter.unusedVariables false

/-- The deferred closure of Batch: roll back unless done, else commit. -/
theorem clo_roll {w : World} {b : LB} {bal : Nat → Int} {jr : List (Nat × Int)} {un pd px pT : Nat} (h : LV w b bal jr un) (hd : At w pd 0 (.bool false)) (hx : At w px 0 (.pointer (some ⟨pT, 0, none⟩))) (ht : At w pT 0 (.pointer (some ⟨b.D, 0, none⟩))) (hk : ∀ e ∈ jr, e.1 < 4) (hl : jr.length ≤ 6) (u : FrameMode) :
    CallsD Try.prog 89 #[.pointer (some ⟨pd, 0, none⟩), .pointer (some ⟨px, 0, none⟩)] u w fun e u' w' => u' = u ∧ (e = .returned (.tuple #[]) ∧ LV w' b (undo bal jr) [] (if jr = [] then un else bump un) ∧ Fr (S3L b) w w') := by
  have c0 := hd.c
  have c1 := hx.c
  have HR := hid (rollback_any h ht hk hl)
  clear h hd hx ht hk hl
  generalize (if jr = [] then un else bump un) = un' at *
  go_enter_d Try.func89, Try.ntmps89
  go_wp2_with fail
  refine HR.out.mono ?_
  rintro e w1 ⟨rfl, lv, f1⟩
  go_wp2_with fail
  exact bodyPost_ret (v := .tuple #[]) (by simp [results, Try.results89, go_sem]) rfl ⟨rfl, lv, f1⟩

theorem clo_commit {w : World} {b : LB} {bal : Nat → Int} {jr : List (Nat × Int)} {un pd px pT : Nat} (h : LV w b bal jr un) (hd : At w pd 0 (.bool true)) (hx : At w px 0 (.pointer (some ⟨pT, 0, none⟩))) (ht : At w pT 0 (.pointer (some ⟨b.D, 0, none⟩))) (u : FrameMode) :
    CallsD Try.prog 89 #[.pointer (some ⟨pd, 0, none⟩), .pointer (some ⟨px, 0, none⟩)] u w fun e u' w' => u' = u ∧ (e = .returned (.tuple #[]) ∧ LV w' b bal [] un ∧ Fr (S3L b) w w') := by
  have c0 := hd.c
  have c1 := hx.c
  have HR := hid (commit_any h ht)
  clear h hd hx ht
  go_enter_d Try.func89, Try.ntmps89
  go_wp2_with fail
  refine HR.out.mono ?_
  rintro e w1 ⟨rfl, lv, f1⟩
  go_wp2_with fail
  go_end0
  exact ⟨rfl, lv, f1⟩

def relAll : List Int → L.St → L.St
  | [], s => s
  | h :: hs, s => relAll hs (L.rel s h).2

def relD (bT : Nat) (h : Int) : Deferred := { target := .fn (.func 50) #[], args := #[.pointer (some ⟨bT, 0, none⟩), .int .i64 h] }
def cloD (pd px : Nat) : Deferred := { target := .fn (.func 89) #[.pointer (some ⟨pd, 0, none⟩), .pointer (some ⟨px, 0, none⟩)], args := #[] }
def catD (bD pn pe : Nat) : Deferred := { target := .fn (.func 80) #[], args := #[.pointer (some ⟨bD, 0, none⟩), .pointer (some ⟨pn, 0, none⟩), .pointer (some ⟨pe, 0, none⟩)] }
def dB (b : LB) (pd px pn pe : Nat) (hs : List Int) : List Deferred := hs.map (relD b.T) ++ [cloD pd px, catD b.D pn pe]

/-- The call's own boxes. -/
structure Bx (w : World) (b : LB) (pn pe pd px pT : Nat) (n e : Int) (dn : Bool) : Prop where
  n0 : At w pn 0 (.int .i64 n)
  e0 : At w pe 0 (.int .i64 e)
  d0 : At w pd 0 (.bool dn)
  x0 : At w px 0 (.pointer (some ⟨pT, 0, none⟩))
  t0 : At w pT 0 (.pointer (some ⟨b.D, 0, none⟩))
  ne : pn ≠ pe
  out : ∀ i, (i = pn ∨ i = pe ∨ i = pd ∨ i = px ∨ i = pT) → ¬ SL b i
theorem Bx.fr {w w' : World} {b : LB} {pn pe pd px pT : Nat} {n e : Int} {dn : Bool} (h : Bx w b pn pe pd px pT n e dn) {S : Nat → Prop} (hf : Fr S w w') (hS : ∀ i, S i → SL b i) : Bx w' b pn pe pd px pT n e dn :=
  ⟨h.n0.fr hf (fun k => h.out _ (by simp) (hS _ k)), h.e0.fr hf (fun k => h.out _ (by simp) (hS _ k)), h.d0.fr hf (fun k => h.out _ (by simp) (hS _ k)), h.x0.fr hf (fun k => h.out _ (by simp) (hS _ k)), h.t0.fr hf (fun k => h.out _ (by simp) (hS _ k)), h.ne, h.out⟩

/-- All releases, in whatever mode. -/
theorem leaves_rels {fn : Func} {tmps : Array Value} {R : Ending → World → Prop} {b : LB} (ds : List Deferred) (u : FrameMode) (hu : u ≠ .run) (hset : settle u = u) :
    ∀ (hs : List Int) (s : L.St) (w : World), RT w b.T b.C b.R s → (∀ w', RT w' b.T b.C b.R (relAll hs s) → Fr (S3 b.T b.C b.R) w w' → Leaves Try.prog fn tmps R ds u w') → Leaves Try.prog fn tmps R (hs.map (relD b.T) ++ ds) u w
  | [], s, w, hr, hk => hk w hr (Fr.refl _ _)
  | h :: hs, s, w, hr, hk => by
    refine leaves_cons (f := 50) (args := #[.pointer (some ⟨b.T, 0, none⟩), .int .i64 h]) hu (by simp [go_sem]) ?_
    refine (release_d hr h u).mono ?_
    rintro e u' w1 ⟨rfl, rfl, hr1, hf1⟩
    show Leaves Try.prog fn tmps R (hs.map (relD b.T) ++ ds) (settle u') w1
    rw [hset]
    exact leaves_rels ds u' hu hset hs _ w1 hr1 (fun w' hr' hf' => hk w' hr' (hf1.trans hf'))

theorem SL_of3 {b : LB} {i : Nat} (h : S3 b.T b.C b.R i) : SL b i := .inr h
theorem SL_of3L {b : LB} {i : Nat} (h : S3L b i) : SL b i := .inl h
theorem LB.Ok.apart {b : LB} (h : b.Ok) : ∀ i, S3L b i → ¬ S3 b.T b.C b.R i := by
  rintro i (rfl | rfl | rfl)
  · exact h.nd
  · exact h.nb
  · exact h.ng

/-- A way out that returns, nothing done: the journal is rolled back. -/
theorem leaves_return {fn : Func} {tmps : Array Value} {R : Ending → World → Prop} {w : World} {b : LB} {bal : Nat → Int} {jr : List (Nat × Int)} {un : Nat} {s : L.St} {pn pe pd px pT : Nat} {n e : Int} (hs : List Int)
    (hres : fn.results = #[.cell 4 3, .cell 5 34]) (h4 : tmps.getD 4 undef = .pointer (some ⟨pn, 0, none⟩)) (h5 : tmps.getD 5 undef = .pointer (some ⟨pe, 0, none⟩))
    (hr : RT w b.T b.C b.R s) (hv : LV w b bal jr un) (hx : Bx w b pn pe pd px pT n e false) (hk : ∀ e ∈ jr, e.1 < 4) (hl : jr.length ≤ 6)
    (hR : ∀ w', RT w' b.T b.C b.R (relAll hs s) → LV w' b (undo bal jr) [] (if jr = [] then un else bump un) → Fr (SL b) w w' → R (.returned (.tuple #[.int .i64 n, .int .i64 e])) w') :
    Leaves Try.prog fn tmps R (dB b pd px pn pe hs) .returning w := by
  have hap := hv.ok.apart
  refine leaves_rels _ .returning (by simp) rfl hs s w hr ?_
  intro w1 hr1 f1
  have hv1 := hv.fr f1 hap
  have hx1 := hx.fr f1 (fun i h => SL_of3 h)
  refine leaves_cons (f := 89) (args := #[.pointer (some ⟨pd, 0, none⟩), .pointer (some ⟨px, 0, none⟩)]) (by simp) (by simp [go_sem]) ?_
  refine (clo_roll hv1 hx1.d0 hx1.x0 hx1.t0 hk hl .returning).mono ?_
  rintro e1 u w2 ⟨rfl, rfl, hv2, f2⟩
  have hx2 := hx1.fr f2 (fun i h => SL_of3L h)
  have hr2 := hr1.fr f2 (fun h => hap _ h (.inl rfl)) (fun h => hap _ h (.inr (.inl rfl))) (fun h => hap _ h (.inr (.inr rfl)))
  show Leaves Try.prog fn tmps R [catD b.D pn pe] .returning w2
  refine leaves_cons (f := 80) (args := #[.pointer (some ⟨b.D, 0, none⟩), .pointer (some ⟨pn, 0, none⟩), .pointer (some ⟨pe, 0, none⟩)]) (by simp) (by simp [go_sem]) ?_
  refine (catch_idle _ _ _ w2).mono ?_
  rintro e1 u w3 ⟨rfl, rfl, rfl⟩
  have c4 : tmps[4]?.getD undef = .pointer (some ⟨pn, 0, none⟩) := by simpa using h4
  have c5 : tmps[5]?.getD undef = .pointer (some ⟨pe, 0, none⟩) := by simpa using h5
  have q4 := hx2.n0.c
  have q5 := hx2.e0.c
  exact ⟨.tuple #[.int .i64 n, .int .i64 e], by simp [results, hres, go_sem, c4, c5, q4, q5], hR _ hr2 hv2 ((f1.mono (fun i _ h => SL_of3 h)).trans (f2.mono (fun i _ h => SL_of3L h)))⟩

/-- The way out that is done. -/
theorem leaves_done {fn : Func} {tmps : Array Value} {R : Ending → World → Prop} {w : World} {b : LB} {bal : Nat → Int} {jr : List (Nat × Int)} {un : Nat} {s : L.St} {pn pe pd px pT : Nat} {n e : Int} (hs : List Int)
    (hres : fn.results = #[.cell 4 3, .cell 5 34]) (h4 : tmps.getD 4 undef = .pointer (some ⟨pn, 0, none⟩)) (h5 : tmps.getD 5 undef = .pointer (some ⟨pe, 0, none⟩))
    (hr : RT w b.T b.C b.R s) (hv : LV w b bal jr un) (hx : Bx w b pn pe pd px pT n e true)
    (hR : ∀ w', RT w' b.T b.C b.R (relAll hs s) → LV w' b bal [] un → Fr (SL b) w w' → R (.returned (.tuple #[.int .i64 n, .int .i64 e])) w') :
    Leaves Try.prog fn tmps R (dB b pd px pn pe hs) .returning w := by
  have hap := hv.ok.apart
  refine leaves_rels _ .returning (by simp) rfl hs s w hr ?_
  intro w1 hr1 f1
  have hv1 := hv.fr f1 hap
  have hx1 := hx.fr f1 (fun i h => SL_of3 h)
  refine leaves_cons (f := 89) (args := #[.pointer (some ⟨pd, 0, none⟩), .pointer (some ⟨px, 0, none⟩)]) (by simp) (by simp [go_sem]) ?_
  refine (clo_commit hv1 hx1.d0 hx1.x0 hx1.t0 .returning).mono ?_
  rintro e1 u w2 ⟨rfl, rfl, hv2, f2⟩
  have hx2 := hx1.fr f2 (fun i h => SL_of3L h)
  have hr2 := hr1.fr f2 (fun h => hap _ h (.inl rfl)) (fun h => hap _ h (.inr (.inl rfl))) (fun h => hap _ h (.inr (.inr rfl)))
  show Leaves Try.prog fn tmps R [catD b.D pn pe] .returning w2
  refine leaves_cons (f := 80) (args := #[.pointer (some ⟨b.D, 0, none⟩), .pointer (some ⟨pn, 0, none⟩), .pointer (some ⟨pe, 0, none⟩)]) (by simp) (by simp [go_sem]) ?_
  refine (catch_idle _ _ _ w2).mono ?_
  rintro e1 u w3 ⟨rfl, rfl, rfl⟩
  have c4 : tmps[4]?.getD undef = .pointer (some ⟨pn, 0, none⟩) := by simpa using h4
  have c5 : tmps[5]?.getD undef = .pointer (some ⟨pe, 0, none⟩) := by simpa using h5
  have q4 := hx2.n0.c
  have q5 := hx2.e0.c
  exact ⟨.tuple #[.int .i64 n, .int .i64 e], by simp [results, hres, go_sem, c4, c5, q4, q5], hR _ hr2 hv2 ((f1.mono (fun i _ h => SL_of3 h)).trans (f2.mono (fun i _ h => SL_of3L h)))⟩

/-- A way out by the layer's own panic: it becomes the call's results. -/
theorem leaves_abort {fn : Func} {tmps : Array Value} {R : Ending → World → Prop} {w : World} {b : LB} {bal : Nat → Int} {jr : List (Nat × Int)} {un : Nat} {s : L.St} {pn pe pd px pT : Nat} {n e : Int} (i er : Int) (hs : List Int)
    (hres : fn.results = #[.cell 4 3, .cell 5 34]) (h4 : tmps.getD 4 undef = .pointer (some ⟨pn, 0, none⟩)) (h5 : tmps.getD 5 undef = .pointer (some ⟨pe, 0, none⟩))
    (hr : RT w b.T b.C b.R s) (hv : LV w b bal jr un) (hx : Bx w b pn pe pd px pT n e false) (hk : ∀ e ∈ jr, e.1 < 4) (hl : jr.length ≤ 6)
    (hR : ∀ w', RT w' b.T b.C b.R (relAll hs s) → LV w' b (undo bal jr) [] (if jr = [] then un else bump un) → Fr (fun k => SL b k ∨ k = pn ∨ k = pe) w w' → R (.returned (.tuple #[.int .i64 i, .int .i64 er])) w') :
    Leaves Try.prog fn tmps R (dB b pd px pn pe hs) (.panicking [{ v := abortV i er, recovered := false }]) w := by
  have hap := hv.ok.apart
  refine leaves_rels _ (.panicking [{ v := abortV i er, recovered := false }]) (by simp) rfl hs s w hr ?_
  intro w1 hr1 f1
  have hv1 := hv.fr f1 hap
  have hx1 := hx.fr f1 (fun i h => SL_of3 h)
  refine leaves_cons (f := 89) (args := #[.pointer (some ⟨pd, 0, none⟩), .pointer (some ⟨px, 0, none⟩)]) (by simp) (by simp [go_sem]) ?_
  refine (clo_roll hv1 hx1.d0 hx1.x0 hx1.t0 hk hl _).mono ?_
  rintro e1 u w2 ⟨rfl, rfl, hv2, f2⟩
  have hx2 := hx1.fr f2 (fun i h => SL_of3L h)
  have hr2 := hr1.fr f2 (fun h => hap _ h (.inl rfl)) (fun h => hap _ h (.inr (.inl rfl))) (fun h => hap _ h (.inr (.inr rfl)))
  show Leaves Try.prog fn tmps R [catD b.D pn pe] (.panicking [{ v := abortV i er, recovered := false }]) w2
  refine leaves_cons (f := 80) (args := #[.pointer (some ⟨b.D, 0, none⟩), .pointer (some ⟨pn, 0, none⟩), .pointer (some ⟨pe, 0, none⟩)]) (by simp) (by simp [go_sem]) ?_
  refine (catch_abort ⟨b.D, 0, none⟩ i er [] hx2.n0 hx2.e0 hx2.ne).mono ?_
  rintro e1 u w3 ⟨rfl, rfl, q4', q5', f3⟩
  have c4 : tmps[4]?.getD undef = .pointer (some ⟨pn, 0, none⟩) := by simpa using h4
  have c5 : tmps[5]?.getD undef = .pointer (some ⟨pe, 0, none⟩) := by simpa using h5
  have q4 := q4'.c
  have q5 := q5'.c
  have on := hx2.out pn (by simp)
  have oe := hx2.out pe (by simp)
  have hv3 := hv2.fr f3 (fun i h k => by rcases k with rfl | rfl; exact on (.inl h); exact oe (.inl h))
  have hr3 := hr2.fr f3 (fun k => by rcases k with k | k; exact on (.inr (.inl k.symm)); exact oe (.inr (.inl k.symm))) (fun k => by rcases k with k | k; exact on (.inr (.inr (.inl k.symm))); exact oe (.inr (.inr (.inl k.symm)))) (fun k => by rcases k with k | k; exact on (.inr (.inr (.inr k.symm))); exact oe (.inr (.inr (.inr k.symm))))
  refine ⟨.tuple #[.int .i64 i, .int .i64 er], by simp [results, hres, go_sem, c4, c5, q4, q5], hR _ hr3 hv3 ?_⟩
  exact ((f1.mono (S' := fun k => SL b k ∨ k = pn ∨ k = pe) (fun i _ h => .inl (SL_of3 h))).trans (f2.mono (fun i _ h => .inl (SL_of3L h)))).trans (f3.mono (fun i _ h => .inr h))

end Go.Proofs.Qxb6500452a
