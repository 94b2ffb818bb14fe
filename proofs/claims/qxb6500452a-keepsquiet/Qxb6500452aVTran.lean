/- The real ledger: Transfer. -/
import Derived.Test.Qxb6500452aVSplit
namespace Go.Proofs.Qxb6500452a
open Go Go.RowKit
set_option maxRecDepth 100000
set_option maxHeartbeats 1600000
set_option linter.unusedSimpArgs false
set_option linter.unusedVariables false

theorem tclo_roll {w : World} {b : LB} {bal : Nat → Int} {jr : List (Nat × Int)} {un pd px pT : Nat} (h : LV w b bal jr un) (hd : At w pd 0 (.bool false)) (hx : At w px 0 (.pointer (some ⟨pT, 0, none⟩))) (ht : At w pT 0 (.pointer (some ⟨b.D, 0, none⟩))) (hk : ∀ e ∈ jr, e.1 < 4) (hl : jr.length ≤ 6) (u : FrameMode) :
    CallsD Try.prog 84 #[.pointer (some ⟨pd, 0, none⟩), .pointer (some ⟨px, 0, none⟩)] u w fun e u' w' => u' = u ∧ (e = .returned (.tuple #[]) ∧ LV w' b (undo bal jr) [] (if jr = [] then un else bump un) ∧ Fr (S3L b) w w') := by
  have c0 := hd.c
  have c1 := hx.c
  have HR := hid (rollback_any h ht hk hl)
  clear h hd hx ht hk hl
  generalize (if jr = [] then un else bump un) = un' at *
  go_enter_d Try.func84, Try.ntmps84
  go_wp2_with fail
  refine HR.out.mono ?_
  rintro e w1 ⟨rfl, lv, f1⟩
  go_wp2_with fail
  exact bodyPost_ret (v := .tuple #[]) (by simp [results, Try.results84, go_sem]) rfl ⟨rfl, lv, f1⟩

theorem tclo_commit {w : World} {b : LB} {bal : Nat → Int} {jr : List (Nat × Int)} {un pd px pT : Nat} (h : LV w b bal jr un) (hd : At w pd 0 (.bool true)) (hx : At w px 0 (.pointer (some ⟨pT, 0, none⟩))) (ht : At w pT 0 (.pointer (some ⟨b.D, 0, none⟩))) (u : FrameMode) :
    CallsD Try.prog 84 #[.pointer (some ⟨pd, 0, none⟩), .pointer (some ⟨px, 0, none⟩)] u w fun e u' w' => u' = u ∧ (e = .returned (.tuple #[]) ∧ LV w' b bal [] un ∧ Fr (S3L b) w w') := by
  have c0 := hd.c
  have c1 := hx.c
  have HR := hid (commit_any h ht)
  clear h hd hx ht
  go_enter_d Try.func84, Try.ntmps84
  go_wp2_with fail
  refine HR.out.mono ?_
  rintro e w1 ⟨rfl, lv, f1⟩
  go_wp2_with fail
  go_end0
  exact ⟨rfl, lv, f1⟩


/-- The deferred literal that wipes n if there is an error. -/
theorem wipe_any {w : World} {pn pe : Nat} {n e : Int} (hn : At w pn 0 (.int .i64 n)) (he : At w pe 0 (.int .i64 e)) (u : FrameMode) :
    CallsD Try.prog 87 #[.pointer (some ⟨pe, 0, none⟩), .pointer (some ⟨pn, 0, none⟩)] u w fun x u' w' => u' = u ∧ (x = .returned (.tuple #[]) ∧ w' = (if e = 0 then w else w.setCell ⟨pn, 0, none⟩ (.int .i64 0))) := by
  have c0 := hn.c
  have x0 := hn.f
  have c1 := he.c
  by_cases h : e = 0
  · subst h
    go_enter_d Try.func87, Try.ntmps87
    go_wp2_with fail
    go_end0
    exact ⟨rfl, rfl⟩
  · have hb : (e != 0) = true := by simp [h]
    rw [if_neg h]
    clear h
    go_enter_d Try.func87, Try.ntmps87
    go_wp2_with fail
    go_end0
    exact ⟨rfl, rfl⟩

def prE (s : Led) (f t : Int) : Int := (L.pair (L.clear s.lk) f t).2.2.1
def prS (s : Led) (f t : Int) : L.St := (L.pair (L.clear s.lk) f t).2.2.2
def trE (s : Led) (f t a : Int) : Int := if chk f t a ≠ 0 then chk f t a else if prE s f t ≠ 0 then prE s f t else payE s.bal f.toNat t.toNat a
def trN (s : Led) (f t a : Int) : Int := if trE s f t a = 0 then payB s.bal f.toNat t.toNat a f.toNat else 0
def trS (s : Led) (f t a : Int) : Led :=
  if chk f t a ≠ 0 then clr s else if prE s f t ≠ 0 then ⟨prS s f t, s.bal, s.un⟩ else
  ⟨relAll [(L.pair (L.clear s.lk) f t).2.1, (L.pair (L.clear s.lk) f t).1] (prS s f t), (if payE s.bal f.toNat t.toNat a = 0 then payB s.bal f.toNat t.toNat a else s.bal), (if payE s.bal f.toNat t.toNat a = 7 then bump s.un else s.un)⟩

/-- Leaving Transfer early. -/
theorem leaves_t {fn : Func} {tmps : Array Value} {R : Ending → World → Prop} {w : World} {b : LB} {pn pe : Nat} {n e : Int}
    (hres : fn.results = #[.cell 8 3, .cell 9 34]) (h4 : tmps.getD 8 undef = .pointer (some ⟨pn, 0, none⟩)) (h5 : tmps.getD 9 undef = .pointer (some ⟨pe, 0, none⟩))
    (hn : At w pn 0 (.int .i64 n)) (he : At w pe 0 (.int .i64 e)) (hR : R (.returned (.tuple #[.int .i64 n, .int .i64 e])) w) :
    Leaves Try.prog fn tmps R [catD b.D pn pe] .returning w := by
  refine leaves_cons (f := 80) (args := #[.pointer (some ⟨b.D, 0, none⟩), .pointer (some ⟨pn, 0, none⟩), .pointer (some ⟨pe, 0, none⟩)]) (by simp) (by simp [go_sem]) ?_
  refine (catch_idle _ _ _ w).mono ?_
  rintro e1 u w3 ⟨rfl, rfl, rfl⟩
  have c4 : tmps[8]?.getD undef = .pointer (some ⟨pn, 0, none⟩) := by simpa using h4
  have c5 : tmps[9]?.getD undef = .pointer (some ⟨pe, 0, none⟩) := by simpa using h5
  have q4 := hn.c
  have q5 := he.c
  exact ⟨.tuple #[.int .i64 n, .int .i64 e], by simp [results, hres, go_sem, c4, c5, q4, q5], hR⟩

def wipD (pe pn : Nat) : Deferred := { target := .fn (.func 87) #[.pointer (some ⟨pe, 0, none⟩), .pointer (some ⟨pn, 0, none⟩)], args := #[] }
def tcloD (pd px : Nat) : Deferred := { target := .fn (.func 84) #[.pointer (some ⟨pd, 0, none⟩), .pointer (some ⟨px, 0, none⟩)], args := #[] }

theorem leaves_tf {fn : Func} {tmps : Array Value} {R : Ending → World → Prop} {w : World} {b : LB} {bal : Nat → Int} {jr : List (Nat × Int)} {un : Nat} {s : L.St} {pn pe pd px pT : Nat} {n e : Int} (hs : List Int) (hez : e ≠ 0)
    (hres : fn.results = #[.cell 8 3, .cell 9 34]) (h4 : tmps.getD 8 undef = .pointer (some ⟨pn, 0, none⟩)) (h5 : tmps.getD 9 undef = .pointer (some ⟨pe, 0, none⟩))
    (hr : RT w b.T b.C b.R s) (hv : LV w b bal jr un) (hx : Bx w b pn pe pd px pT n e false) (hd : pn ≠ pd ∧ pn ≠ px ∧ pn ≠ pT) (hk : ∀ e ∈ jr, e.1 < 4) (hl : jr.length ≤ 6)
    (hR : ∀ w', RT w' b.T b.C b.R (relAll hs s) → LV w' b (undo bal jr) [] (if jr = [] then un else bump un) → Fr (fun k => SL b k ∨ k = pn) w w' → R (.returned (.tuple #[.int .i64 0, .int .i64 e])) w') :
    Leaves Try.prog fn tmps R (wipD pe pn :: tcloD pd px :: (hs.map (relD b.T) ++ [catD b.D pn pe])) .returning w := by
  have hap := hv.ok.apart
  refine leaves_cons (f := 87) (args := #[.pointer (some ⟨pe, 0, none⟩), .pointer (some ⟨pn, 0, none⟩)]) (by simp) (by simp [go_sem]) ?_
  refine (wipe_any hx.n0 hx.e0 .returning).mono ?_
  rintro e0 u w0 ⟨rfl, rfl, rfl⟩
  rw [if_neg hez]
  have f0 : Fr (fun k => k = pn) w (w.setCell ⟨pn, 0, none⟩ (.int .i64 0)) := (Fr.refl (fun k => k = pn) w).setCell (p := ⟨pn, 0, none⟩) (fun _ => rfl) _
  have on := hx.out pn (by simp)
  have hr0 := hr.fr f0 (fun c => on (.inr (.inl c.symm))) (fun c => on (.inr (.inr (.inl c.symm)))) (fun c => on (.inr (.inr (.inr c.symm))))
  have hv0 := hv.fr f0 (fun i hi c => on (c ▸ .inl hi))
  have hx0 : Bx (w.setCell ⟨pn, 0, none⟩ (.int .i64 0)) b pn pe pd px pT 0 e false := ⟨hx.n0.same _, hx.e0.fr f0 (fun c => hx.ne c.symm), hx.d0.fr f0 (fun c => hd.1 c.symm), hx.x0.fr f0 (fun c => hd.2.1 c.symm), hx.t0.fr f0 (fun c => hd.2.2 c.symm), hx.ne, hx.out⟩
  show Leaves Try.prog fn tmps R (tcloD pd px :: (hs.map (relD b.T) ++ [catD b.D pn pe])) .returning _
  refine leaves_cons (f := 84) (args := #[.pointer (some ⟨pd, 0, none⟩), .pointer (some ⟨px, 0, none⟩)]) (by simp) (by simp [go_sem]) ?_
  refine (tclo_roll hv0 hx0.d0 hx0.x0 hx0.t0 hk hl .returning).mono ?_
  rintro e1 u w2 ⟨rfl, rfl, hv2, f2⟩
  have hx2 := hx0.fr f2 (fun i h => SL_of3L h)
  have hr2 := hr0.fr f2 (fun h => hap _ h (.inl rfl)) (fun h => hap _ h (.inr (.inl rfl))) (fun h => hap _ h (.inr (.inr rfl)))
  show Leaves Try.prog fn tmps R (hs.map (relD b.T) ++ [catD b.D pn pe]) .returning w2
  refine leaves_rels _ .returning (by simp) rfl hs s w2 hr2 ?_
  intro w3 hr3 f3
  have hx3 := hx2.fr f3 (fun i h => SL_of3 h)
  refine leaves_t hres h4 h5 hx3.n0 hx3.e0 (hR _ hr3 (hv2.fr f3 hap) ?_)
  exact ((f0.mono (S' := fun k => SL b k ∨ k = pn) (fun _ _ h => .inr h)).trans (f2.mono (fun _ _ h => .inl (SL_of3L h)))).trans (f3.mono (fun _ _ h => .inl (SL_of3 h)))

theorem leaves_td {fn : Func} {tmps : Array Value} {R : Ending → World → Prop} {w : World} {b : LB} {bal : Nat → Int} {jr : List (Nat × Int)} {un : Nat} {s : L.St} {pn pe pd px pT : Nat} {n : Int} (hs : List Int)
    (hres : fn.results = #[.cell 8 3, .cell 9 34]) (h4 : tmps.getD 8 undef = .pointer (some ⟨pn, 0, none⟩)) (h5 : tmps.getD 9 undef = .pointer (some ⟨pe, 0, none⟩))
    (hr : RT w b.T b.C b.R s) (hv : LV w b bal jr un) (hx : Bx w b pn pe pd px pT n 0 true)
    (hR : ∀ w', RT w' b.T b.C b.R (relAll hs s) → LV w' b bal [] un → Fr (SL b) w w' → R (.returned (.tuple #[.int .i64 n, .int .i64 0])) w') :
    Leaves Try.prog fn tmps R (wipD pe pn :: tcloD pd px :: (hs.map (relD b.T) ++ [catD b.D pn pe])) .returning w := by
  have hap := hv.ok.apart
  refine leaves_cons (f := 87) (args := #[.pointer (some ⟨pe, 0, none⟩), .pointer (some ⟨pn, 0, none⟩)]) (by simp) (by simp [go_sem]) ?_
  refine (wipe_any hx.n0 hx.e0 .returning).mono ?_
  rintro e0 u w0 ⟨rfl, rfl, h0⟩
  rw [if_pos rfl] at h0
  obtain rfl := h0.symm
  show Leaves Try.prog fn tmps R (tcloD pd px :: (hs.map (relD b.T) ++ [catD b.D pn pe])) .returning w
  refine leaves_cons (f := 84) (args := #[.pointer (some ⟨pd, 0, none⟩), .pointer (some ⟨px, 0, none⟩)]) (by simp) (by simp [go_sem]) ?_
  refine (tclo_commit hv hx.d0 hx.x0 hx.t0 .returning).mono ?_
  rintro e1 u w2 ⟨rfl, rfl, hv2, f2⟩
  have hx2 := hx.fr f2 (fun i h => SL_of3L h)
  have hr2 := hr.fr f2 (fun h => hap _ h (.inl rfl)) (fun h => hap _ h (.inr (.inl rfl))) (fun h => hap _ h (.inr (.inr rfl)))
  show Leaves Try.prog fn tmps R (hs.map (relD b.T) ++ [catD b.D pn pe]) .returning w2
  refine leaves_rels _ .returning (by simp) rfl hs s w2 hr2 ?_
  intro w3 hr3 f3
  have hx3 := hx2.fr f3 (fun i h => SL_of3 h)
  refine leaves_t hres h4 h5 hx3.n0 hx3.e0 (hR _ hr3 (hv2.fr f3 hap) ?_)
  exact (f2.mono (fun _ _ h => SL_of3L h)).trans (f3.mono (fun _ _ h => SL_of3 h))

/-- Transfer behind the payment: everything in its place. -/
structure BT (w0 w : World) (b : LB) (bal : Nat → Int) (jr : List (Nat × Int)) (un : Nat) (lk : L.St) (pn pe pd px pT : Nat) (n e : Int) (dn : Bool) : Prop where
  rt : RT w b.T b.C b.R lk
  lv : LV w b bal jr un
  bx : Bx w b pn pe pd px pT n e dn
  ds : w0.heap.size ≤ pn ∧ pn < pe ∧ pe < pT ∧ pT < px ∧ px < pd
  fr : Fr (SL b) w0 w
section
variable {w0 w : World} {b : LB} {bal : Nat → Int} {jr : List (Nat × Int)} {un : Nat} {lk : L.St} {pn pe pd px pT : Nat} {n e : Int} {dn : Bool}
theorem BT.setN (h : BT w0 w b bal jr un lk pn pe pd px pT n e dn) (v : Int) : BT w0 (w.setCell ⟨pn, 0, none⟩ (.int .i64 v)) b bal jr un lk pn pe pd px pT v e dn := by
  have o := h.bx.out pn (by simp)
  obtain ⟨h1, h2, h3, h4, h5⟩ := h.ds
  have hf : Fr (fun i => i = pn) w (w.setCell ⟨pn, 0, none⟩ (.int .i64 v)) := (Fr.refl (fun i => i = pn) w).setCell (p := ⟨pn, 0, none⟩) (fun _ => rfl) _
  have hn : ∀ i, SL b i → ¬ i = pn := fun i hi e => o (e ▸ hi)
  exact ⟨h.rt.fr hf (hn _ (.inr (.inl rfl))) (hn _ (.inr (.inr (.inl rfl)))) (hn _ (.inr (.inr (.inr rfl)))), h.lv.fr hf (fun i hi => hn i (.inl hi)), ⟨h.bx.n0.same _, h.bx.e0.fr hf (by omega), h.bx.d0.fr hf (by omega), h.bx.x0.fr hf (by omega), h.bx.t0.fr hf (by omega), h.bx.ne, h.bx.out⟩, h.ds, h.fr.setN (by omega) _ _⟩
theorem BT.setE (h : BT w0 w b bal jr un lk pn pe pd px pT n e dn) (v : Int) : BT w0 (w.setCell ⟨pe, 0, none⟩ (.int .i64 v)) b bal jr un lk pn pe pd px pT n v dn := by
  have o := h.bx.out pe (by simp)
  obtain ⟨h1, h2, h3, h4, h5⟩ := h.ds
  have hf : Fr (fun i => i = pe) w (w.setCell ⟨pe, 0, none⟩ (.int .i64 v)) := (Fr.refl (fun i => i = pe) w).setCell (p := ⟨pe, 0, none⟩) (fun _ => rfl) _
  have hn : ∀ i, SL b i → ¬ i = pe := fun i hi e => o (e ▸ hi)
  exact ⟨h.rt.fr hf (hn _ (.inr (.inl rfl))) (hn _ (.inr (.inr (.inl rfl)))) (hn _ (.inr (.inr (.inr rfl)))), h.lv.fr hf (fun i hi => hn i (.inl hi)), ⟨h.bx.n0.fr hf (by omega), h.bx.e0.same _, h.bx.d0.fr hf (by omega), h.bx.x0.fr hf (by omega), h.bx.t0.fr hf (by omega), h.bx.ne, h.bx.out⟩, h.ds, h.fr.setN (by omega) _ _⟩
theorem BT.setD (h : BT w0 w b bal jr un lk pn pe pd px pT n e dn) (v : Bool) : BT w0 (w.setCell ⟨pd, 0, none⟩ (.bool v)) b bal jr un lk pn pe pd px pT n e v := by
  have o := h.bx.out pd (by simp)
  obtain ⟨h1, h2, h3, h4, h5⟩ := h.ds
  have hf : Fr (fun i => i = pd) w (w.setCell ⟨pd, 0, none⟩ (.bool v)) := (Fr.refl (fun i => i = pd) w).setCell (p := ⟨pd, 0, none⟩) (fun _ => rfl) _
  have hn : ∀ i, SL b i → ¬ i = pd := fun i hi e => o (e ▸ hi)
  exact ⟨h.rt.fr hf (hn _ (.inr (.inl rfl))) (hn _ (.inr (.inr (.inl rfl)))) (hn _ (.inr (.inr (.inr rfl)))), h.lv.fr hf (fun i hi => hn i (.inl hi)), ⟨h.bx.n0.fr hf (by omega), h.bx.e0.fr hf (by omega), h.bx.d0.same _, h.bx.x0.fr hf (by omega), h.bx.t0.fr hf (by omega), h.bx.ne, h.bx.out⟩, h.ds, h.fr.setN (by omega) _ _⟩
end

theorem transfer_any {w : World} {b : LB} {s : Led} (h : LR w b s) (f t a : Int) :
    Calls Try.prog 61 #[.pointer (some ⟨b.D, 0, none⟩), .int .i64 f, .int .i64 t, .int .i64 a] w fun e w' => e = .returned (.tuple #[.int .i64 (trN s f t a), .int .i64 (trE s f t a)]) ∧ LR w' b (trS s f t a) ∧ Fr (SL b) w w' := by
  have d0 := h.lv.d0.c
  have H := hid h
  have hD := h.lv.d0.lt
  clear h
  have hmf : ∀ (fn : Fn) (first cap : Array Value) (w : World), (Instr.makeFunc fn first cap).run Try.prog w = .ok (.func fn first cap) w := fun _ _ _ _ => rfl
  have fa : Fr (fun _ => False) w ((w.alloc (.cells #[.int .i64 0] 3)).alloc (.cells #[.int .i64 0] 34)) := ((Fr.refl _ _).alloc _).alloc _
  have FA := hid fa
  have A4 := hid ((At.new w #[.int .i64 0] 3 (o := 0) rfl).alloc (.cells #[.int .i64 0] 34))
  have A5 : Hid (At ((w.alloc (.cells #[.int .i64 0] 3)).alloc (.cells #[.int .i64 0] 34)) (w.heap.size + 1) 0 (.int .i64 0)) := by
    have := At.new (w.alloc (.cells #[.int .i64 0] 3)) #[.int .i64 0] 34 (o := 0) rfl
    simp only [World.size_alloc] at this
    exact this
  clear fa
  have HON : Hid (¬ SL b w.heap.size) := fun c => by have := H.out.lt _ c; omega
  have HOE : Hid (¬ SL b (w.heap.size + 1)) := fun c => by have := H.out.lt _ c; omega
  by_cases hc : chk f t a = 0
  rotate_left
  · have hE : trE s f t a = chk f t a := by unfold trE; rw [if_pos hc]
    have hN : trN s f t a = 0 := by unfold trN; rw [hE, if_neg hc]
    have hS : trS s f t a = clr s := by unfold trS; rw [if_pos hc]
    rw [hE, hN, hS]
    clear hE hN hS
    have hcb : (chk f t a != 0) = true := by simp [hc]
    clear hc
    go_enter_defers Try.func61, Try.ntmps61
    go_wp2_with fail
    refine (clear_any (H.out.rt.fr FA.out (fun h => h) (fun h => h) (fun h => h))).mono ?_
    rintro e w1 ⟨rfl, r1, f1⟩
    have nS : ∀ i, w.heap.size ≤ i → ¬ S3 b.T b.C b.R i := fun i hi c => by have := H.out.lt i (SL_of3 c); omega
    have L1 := hid ((H.out.fr FA.out (fun _ _ h => h)).lock r1 f1)
    have A5' := hid (A5.out.fr f1 (nS _ (by omega)))
    have A4' := hid (A4.out.fr f1 (nS _ (by omega)))
    have F1 : Hid (Fr (SL b) w w1) := (FA.out.mono (fun _ _ h => h.elim)).trans (f1.mono (fun _ _ h => SL_of3 h))
    have NS := hid nS
    clear r1 f1 A4 A5 nS FA
    go_wp2_with fail
    refine (check_any f t a _).mono ?_
    rintro e w2 ⟨rfl, f2⟩
    have f2' : Fr (fun _ => False) w1 w2 := ((Fr.refl (fun _ => False) w1).alloc _).trans f2
    have L2 := hid (L1.out.fr f2' (fun _ _ h => h))
    have A5 := hid (A5'.out.fr f2' (fun h => h))
    have A4 := hid (A4'.out.fr f2' (fun h => h))
    have F2 : Hid (Fr (SL b) w w2) := F1.out.then f2' (fun _ _ h => h.elim)
    have M0 := hid ((At.new w1 #[.int .i64 f, .int .i64 t, .int .i64 a] 56 (o := 0) rfl).fr f2 (fun h => h))
    have M1 := hid ((At.new w1 #[.int .i64 f, .int .i64 t, .int .i64 a] 56 (o := 1) rfl).fr f2 (fun h => h))
    have M2 := hid ((At.new w1 #[.int .i64 f, .int .i64 t, .int .i64 a] 56 (o := 2) rfl).fr f2 (fun h => h))
    have HPM : Hid (w.heap.size + 1 < w1.heap.size) := A5'.out.lt
    generalize w1.heap.size = pm at *
    have d0 := L2.out.lv.d0.c
    have z5 := A5.out.c
    have x5 := A5.out.f
    have z4 := A4.out.c
    have x4 := A4.out.f
    have hne : w.heap.size ≠ w.heap.size + 1 := by omega
    have hDn : b.D ≠ w.heap.size + 1 := by omega
    clear f2 f2' F1 L1 A4' A5'
    go_wp2_with fail
    have LL := ((L2.out.set1 HOE.out (.int .i64 (chk f t a))).set1 HON.out (.int .i64 0)).set1 HOE.out (.int .i64 (chk f t a))
    have an := ((A4.out.other (b' := w.heap.size + 1) (o' := 0) (by omega) (.int .i64 (chk f t a))).same (.int .i64 0)).other (b' := w.heap.size + 1) (o' := 0) (by omega) (.int .i64 (chk f t a))
    have ae := ((A5.out.same (.int .i64 (chk f t a))).other (b' := w.heap.size) (o' := 0) (by omega) (.int .i64 0)).same (.int .i64 (chk f t a))
    have ff := ((F2.out.setN (b := w.heap.size + 1) (by omega) 0 (.int .i64 (chk f t a))).setN (Nat.le_refl _) 0 (.int .i64 0)).setN (b := w.heap.size + 1) (by omega) 0 (.int .i64 (chk f t a))
    exact leaves_t Try.results61 rfl rfl an ae ⟨rfl, LL, ff⟩
  have HC := hid hc
  obtain ⟨fn, tn, rfl, rfl, hf4, ht4, hft, a1, a2⟩ := chk_ok hc
  by_cases hp : prE s (fn : Int) (tn : Int) = 0
  rotate_left
  · have hE : trE s (fn : Int) (tn : Int) a = prE s (fn : Int) (tn : Int) := by unfold trE; rw [if_neg (fun h => h hc), if_pos hp]
    have hN : trN s (fn : Int) (tn : Int) a = 0 := by unfold trN; rw [hE, if_neg hp]
    have hS : trS s (fn : Int) (tn : Int) a = ⟨prS s (fn : Int) (tn : Int), s.bal, s.un⟩ := by unfold trS; rw [if_neg (fun h => h hc), if_pos hp]
    rw [hE, hN, hS]
    have HPE : Hid ((L.pair (L.clear s.lk) (fn : Int) (tn : Int)).2.2.1 = prE s (fn : Int) (tn : Int)) := rfl
    have HPS : Hid ((L.pair (L.clear s.lk) (fn : Int) (tn : Int)).2.2.2 = prS s (fn : Int) (tn : Int)) := rfl
    clear hE hN hS
    have hpb : (prE s (fn : Int) (tn : Int) != 0) = true := by simp [hp]
    clear hp hc
    go_enter_defers Try.func61, Try.ntmps61
    go_wp2_with fail
    refine (clear_any (H.out.rt.fr FA.out (fun h => h) (fun h => h) (fun h => h))).mono ?_
    rintro e w1 ⟨rfl, r1, f1⟩
    have nS : ∀ i, w.heap.size ≤ i → ¬ S3 b.T b.C b.R i := fun i hi c => by have := H.out.lt i (SL_of3 c); omega
    have L1 := hid ((H.out.fr FA.out (fun _ _ h => h)).lock r1 f1)
    have A5' := hid (A5.out.fr f1 (nS _ (by omega)))
    have A4' := hid (A4.out.fr f1 (nS _ (by omega)))
    have F1 : Hid (Fr (SL b) w w1) := (FA.out.mono (fun _ _ h => h.elim)).trans (f1.mono (fun _ _ h => SL_of3 h))
    have NS := hid nS
    clear r1 f1 A4 A5 nS FA
    go_wp2_with fail
    refine (check_any (fn : Int) (tn : Int) a _).mono ?_
    rintro e w2 ⟨rfl, f2⟩
    rw [HC.out]
    have f2' : Fr (fun _ => False) w1 w2 := ((Fr.refl (fun _ => False) w1).alloc _).trans f2
    have L2 := hid (L1.out.fr f2' (fun _ _ h => h))
    have A5 := hid (A5'.out.fr f2' (fun h => h))
    have A4 := hid (A4'.out.fr f2' (fun h => h))
    have F2 : Hid (Fr (SL b) w w2) := F1.out.then f2' (fun _ _ h => h.elim)
    have M0 := hid ((At.new w1 #[.int .i64 (fn : Int), .int .i64 (tn : Int), .int .i64 a] 56 (o := 0) rfl).fr f2 (fun h => h))
    have M1 := hid ((At.new w1 #[.int .i64 (fn : Int), .int .i64 (tn : Int), .int .i64 a] 56 (o := 1) rfl).fr f2 (fun h => h))
    have M2 := hid ((At.new w1 #[.int .i64 (fn : Int), .int .i64 (tn : Int), .int .i64 a] 56 (o := 2) rfl).fr f2 (fun h => h))
    have HPM : Hid (w.heap.size + 1 < w1.heap.size) := A5'.out.lt
    generalize w1.heap.size = pm at *
    have d0 := L2.out.lv.d0.c
    have z5 := A5.out.c
    have x5 := A5.out.f
    have z4 := A4.out.c
    have x4 := A4.out.f
    have hne : w.heap.size ≠ w.heap.size + 1 := by omega
    have hDn : b.D ≠ w.heap.size + 1 := by omega
    clear f2 f2' F1 L1 A4' A5'
    go_wp2_with fail
    have L2' := hid (L2.out.set1 HOE.out (.int .i64 0))
    have A4' := hid (A4.out.other (b' := w.heap.size + 1) (o' := 0) (by omega) (.int .i64 0))
    have A5' := hid (A5.out.same (.int .i64 0))
    have F2' := hid (F2.out.setN (b := w.heap.size + 1) (by omega) 0 (.int .i64 0))
    clear z5 x5 z4 x4 d0
    generalize w2.setCell ⟨w.heap.size + 1, 0, none⟩ (.int .i64 0) = w25 at *
    refine (pair_any L2'.out.rt (fn : Int) (tn : Int)).mono ?_
    rintro e w3 ⟨rfl, r3, f3⟩
    simp only at r3 ⊢
    rw [HPS.out] at r3
    have L3 := hid (L2'.out.lock r3 f3)
    have A5 := hid (A5'.out.fr f3 (NS.out _ (by omega)))
    have A4 := hid (A4'.out.fr f3 (NS.out _ (by omega)))
    have F3 : Hid (Fr (SL b) w w3) := F2'.out.trans (f3.mono (fun _ _ h => SL_of3 h))
    have q5 := A5.out.c
    have x5 := A5.out.f
    have q4 := A4.out.c
    have x4 := A4.out.f
    have d0 := L3.out.lv.d0.c
    rw [HPE.out]
    clear r3 f3 A4' A5' F2' L2'
    go_wp2_with fail
    have LL := ((L3.out.set1 HOE.out (.int .i64 (prE s (fn : Int) (tn : Int)))).set1 HON.out (.int .i64 0)).set1 HOE.out (.int .i64 (prE s (fn : Int) (tn : Int)))
    have an := ((A4.out.other (b' := w.heap.size + 1) (o' := 0) (by omega) (.int .i64 (prE s (fn : Int) (tn : Int)))).same (.int .i64 0)).other (b' := w.heap.size + 1) (o' := 0) (by omega) (.int .i64 (prE s (fn : Int) (tn : Int)))
    have ae := ((A5.out.same (.int .i64 (prE s (fn : Int) (tn : Int)))).other (b' := w.heap.size) (o' := 0) (by omega) (.int .i64 0)).same (.int .i64 (prE s (fn : Int) (tn : Int)))
    have ff := ((F3.out.setN (b := w.heap.size + 1) (by omega) 0 (.int .i64 (prE s (fn : Int) (tn : Int)))).setN (Nat.le_refl _) 0 (.int .i64 0)).setN (b := w.heap.size + 1) (by omega) 0 (.int .i64 (prE s (fn : Int) (tn : Int)))
    exact leaves_t Try.results61 rfl rfl an ae ⟨rfl, LL, ff⟩
  · have HPE : Hid ((L.pair (L.clear s.lk) (fn : Int) (tn : Int)).2.2.1 = 0) := hp
    have HPS : Hid ((L.pair (L.clear s.lk) (fn : Int) (tn : Int)).2.2.2 = prS s (fn : Int) (tn : Int)) := rfl
    have hE : trE s (fn : Int) (tn : Int) a = payE s.bal fn tn a := by unfold trE; rw [if_neg (fun h => h hc), if_neg (fun h => h hp)]; simp
    have hN : trN s (fn : Int) (tn : Int) a = if payE s.bal fn tn a = 0 then payB s.bal fn tn a fn else 0 := by unfold trN; rw [hE]; simp
    have hS : trS s (fn : Int) (tn : Int) a = ⟨relAll [(L.pair (L.clear s.lk) (fn : Int) (tn : Int)).2.1, (L.pair (L.clear s.lk) (fn : Int) (tn : Int)).1] (prS s (fn : Int) (tn : Int)), (if payE s.bal fn tn a = 0 then payB s.bal fn tn a else s.bal), (if payE s.bal fn tn a = 7 then bump s.un else s.un)⟩ := by unfold trS; rw [if_neg (fun h => h hc), if_neg (fun h => h hp)]; simp
    rw [hE, hN, hS]
    clear hE hN hS hp hc
    generalize hrn : (if payE s.bal fn tn a = 0 then payB s.bal fn tn a fn else 0) = rn
    generalize hst : (⟨relAll [(L.pair (L.clear s.lk) (fn : Int) (tn : Int)).2.1, (L.pair (L.clear s.lk) (fn : Int) (tn : Int)).1] (prS s (fn : Int) (tn : Int)), (if payE s.bal fn tn a = 0 then payB s.bal fn tn a else s.bal), (if payE s.bal fn tn a = 7 then bump s.un else s.un)⟩ : Led) = st'
    have HRN := hid hrn
    have HST := hid hst
    clear hrn hst
    go_enter_defers Try.func61, Try.ntmps61
    go_wp2_with fail
    refine (clear_any (H.out.rt.fr FA.out (fun h => h) (fun h => h) (fun h => h))).mono ?_
    rintro e w1 ⟨rfl, r1, f1⟩
    have nS : ∀ i, w.heap.size ≤ i → ¬ S3 b.T b.C b.R i := fun i hi c => by have := H.out.lt i (SL_of3 c); omega
    have L1 := hid ((H.out.fr FA.out (fun _ _ h => h)).lock r1 f1)
    have A5' := hid (A5.out.fr f1 (nS _ (by omega)))
    have A4' := hid (A4.out.fr f1 (nS _ (by omega)))
    have F1 : Hid (Fr (SL b) w w1) := (FA.out.mono (fun _ _ h => h.elim)).trans (f1.mono (fun _ _ h => SL_of3 h))
    have NS := hid nS
    clear r1 f1 A4 A5 nS FA
    go_wp2_with fail
    refine (check_any (fn : Int) (tn : Int) a _).mono ?_
    rintro e w2 ⟨rfl, f2⟩
    rw [HC.out]
    have f2' : Fr (fun _ => False) w1 w2 := ((Fr.refl (fun _ => False) w1).alloc _).trans f2
    have L2 := hid (L1.out.fr f2' (fun _ _ h => h))
    have A5 := hid (A5'.out.fr f2' (fun h => h))
    have A4 := hid (A4'.out.fr f2' (fun h => h))
    have F2 : Hid (Fr (SL b) w w2) := F1.out.then f2' (fun _ _ h => h.elim)
    have M0 := hid ((At.new w1 #[.int .i64 (fn : Int), .int .i64 (tn : Int), .int .i64 a] 56 (o := 0) rfl).fr f2 (fun h => h))
    have M1 := hid ((At.new w1 #[.int .i64 (fn : Int), .int .i64 (tn : Int), .int .i64 a] 56 (o := 1) rfl).fr f2 (fun h => h))
    have M2 := hid ((At.new w1 #[.int .i64 (fn : Int), .int .i64 (tn : Int), .int .i64 a] 56 (o := 2) rfl).fr f2 (fun h => h))
    have HPM : Hid (w.heap.size + 1 < w1.heap.size) := A5'.out.lt
    generalize w1.heap.size = pm at *
    have d0 := L2.out.lv.d0.c
    have z5 := A5.out.c
    have x5 := A5.out.f
    have z4 := A4.out.c
    have x4 := A4.out.f
    have hne : w.heap.size ≠ w.heap.size + 1 := by omega
    have hDn : b.D ≠ w.heap.size + 1 := by omega
    clear f2 f2' F1 L1 A4' A5'
    go_wp2_with fail
    have L2' := hid (L2.out.set1 HOE.out (.int .i64 0))
    have A4' := hid (A4.out.other (b' := w.heap.size + 1) (o' := 0) (by omega) (.int .i64 0))
    have A5' := hid (A5.out.same (.int .i64 0))
    have F2' := hid (F2.out.setN (b := w.heap.size + 1) (by omega) 0 (.int .i64 0))
    have hpm := HPM.out
    have N0' := hid (M0.out.other (b' := w.heap.size + 1) (o' := 0) (by omega) (.int .i64 0))
    have N1' := hid (M1.out.other (b' := w.heap.size + 1) (o' := 0) (by omega) (.int .i64 0))
    have N2' := hid (M2.out.other (b' := w.heap.size + 1) (o' := 0) (by omega) (.int .i64 0))
    clear M0 M1 M2
    clear z5 x5 z4 x4 d0
    generalize w2.setCell ⟨w.heap.size + 1, 0, none⟩ (.int .i64 0) = w25 at *
    refine (pair_any L2'.out.rt (fn : Int) (tn : Int)).mono ?_
    rintro e w3 ⟨rfl, r3, f3⟩
    simp only at r3 ⊢
    rw [HPS.out] at r3
    have L3 := hid (L2'.out.lock r3 f3)
    have A5 := hid (A5'.out.fr f3 (NS.out _ (by omega)))
    have A4 := hid (A4'.out.fr f3 (NS.out _ (by omega)))
    have F3 : Hid (Fr (SL b) w w3) := F2'.out.trans (f3.mono (fun _ _ h => SL_of3 h))
    have q5 := A5.out.c
    have x5 := A5.out.f
    have q4 := A4.out.c
    have x4 := A4.out.f
    have d0 := L3.out.lv.d0.c
    rw [HPE.out]
    have NSp : ¬ S3 b.T b.C b.R pm := NS.out _ (by omega)
    have N0 := hid ((N0'.out.fr f3 NSp).other (b' := w.heap.size + 1) (o' := 0) (by omega) (.int .i64 0))
    have N1 := hid ((N1'.out.fr f3 NSp).other (b' := w.heap.size + 1) (o' := 0) (by omega) (.int .i64 0))
    have N2 := hid ((N2'.out.fr f3 NSp).other (b' := w.heap.size + 1) (o' := 0) (by omega) (.int .i64 0))
    clear r3 f3 A4' A5' F2' L2' N0' N1' N2' NSp
    go_wp2_with fail
    have L4 := hid (L3.out.set1 HOE.out (.int .i64 0))
    have B4 := hid (A4.out.other (b' := w.heap.size + 1) (o' := 0) (by omega) (.int .i64 0))
    have B5 := hid (A5.out.same (.int .i64 0))
    have F4 := hid (F3.out.setN (b := w.heap.size + 1) (by omega) 0 (.int .i64 0))
    clear q5 x5 q4 x4 d0 L3 A4 A5 F3
    generalize w3.setCell ⟨w.heap.size + 1, 0, none⟩ (.int .i64 0) = w4 at *
    refine (begin_any b.D w4).mono ?_
    rintro e w5 ⟨rfl, t5, f5⟩
    have e5 : Fr (fun _ => False) w4 ((w5.alloc (.cells #[.pointer (some ⟨w4.heap.size, 0, none⟩)] 122)).alloc (.cells #[.bool false] 4)) := (f5.alloc _).alloc _
    have g5 : Fr (fun _ => False) w5 ((w5.alloc (.cells #[.pointer (some ⟨w4.heap.size, 0, none⟩)] 122)).alloc (.cells #[.bool false] 4)) := ((Fr.refl _ _).alloc _).alloc _
    have L5 := hid (L4.out.fr e5 (fun _ _ h => h))
    have C4 := hid (B4.out.fr e5 (fun h => h))
    have C5 := hid (B5.out.fr e5 (fun h => h))
    have P0 := hid (N0.out.fr e5 (fun h => h))
    have P1 := hid (N1.out.fr e5 (fun h => h))
    have P2 := hid (N2.out.fr e5 (fun h => h))
    have F5 : Hid (Fr (SL b) w ((w5.alloc (.cells #[.pointer (some ⟨w4.heap.size, 0, none⟩)] 122)).alloc (.cells #[.bool false] 4))) := F4.out.then e5 (fun _ _ h => h.elim)
    have T5 := hid (t5.fr g5 (fun h => h))
    have X5 := hid ((At.new w5 #[.pointer (some ⟨w4.heap.size, 0, none⟩)] 122 (o := 0) rfl).alloc (.cells #[.bool false] 4))
    have D5 : Hid (At ((w5.alloc (.cells #[.pointer (some ⟨w4.heap.size, 0, none⟩)] 122)).alloc (.cells #[.bool false] 4)) (w5.heap.size + 1) 0 (.bool false)) := by
      have := At.new (w5.alloc (.cells #[.pointer (some ⟨w4.heap.size, 0, none⟩)] 122)) #[.bool false] 4 (o := 0) rfl
      simp only [World.size_alloc] at this
      exact this
    have hpT : w.heap.size + 1 < w4.heap.size := B5.out.lt
    have hpx : w4.heap.size < w5.heap.size := t5.lt
    clear t5 f5 e5 g5 L4 B4 B5 F4 N0 N1 N2
    go_upto_region 16 with fail
    generalize (w5.alloc (.cells #[.pointer (some ⟨w4.heap.size, 0, none⟩)] 122)).alloc (.cells #[.bool false] 4) = w6 at *
    have HDS : Hid (w.heap.size + 1 < w4.heap.size ∧ w4.heap.size < w5.heap.size) := ⟨hpT, hpx⟩
    generalize hpd : w5.heap.size + 1 = pd at *
    have HPD : Hid (w5.heap.size < pd) := by unfold Hid; omega
    clear hpd
    generalize w5.heap.size = px at *
    generalize w4.heap.size = pT at *
    have p0 := P0.out.c
    have p1 := P1.out.c
    have p2 := P2.out.c
    have tx := X5.out.c
    clear hpT hpx
    have hbl := H.out.bl
    have HPAY := hid (pay_any L5.out.lv T5.out (fun c => by have := H.out.lt pT (SL_of3L c); have := HDS.out.1; omega) hf4 ht4 hft a1 a2 hbl (by simp))
    simp only at HPAY
    clear hbl
    go_wp2_with fail
    refine HPAY.out.mono ?_
    rintro e w7 ⟨rfl, v7, f7⟩
    have hap := L5.out.lv.ok.apart
    have BT7 : Hid (BT w w7 b (payB s.bal fn tn a) (payJ s.bal fn tn a []) s.un (prS s (fn : Int) (tn : Int)) w.heap.size (w.heap.size + 1) pd px pT 0 0 false) := by
      have hds := HDS.out
      have hpd := HPD.out
      have nS : ∀ i, w.heap.size ≤ i → ¬ SL b i := fun i hi c => by have := H.out.lt i c; omega
      have n3 : ∀ i, w.heap.size ≤ i → ¬ S3L b i := fun i hi c => nS i hi (.inl c)
      refine ⟨L5.out.rt.fr f7 (fun c => hap _ c (.inl rfl)) (fun c => hap _ c (.inr (.inl rfl))) (fun c => hap _ c (.inr (.inr rfl))), v7, ⟨C4.out.fr f7 (n3 _ (by omega)), C5.out.fr f7 (n3 _ (by omega)), D5.out.fr f7 (n3 _ (by omega)), X5.out.fr f7 (n3 _ (by omega)), T5.out.fr f7 (n3 _ (by omega)), by omega, fun i hi => ?_⟩, by omega, F5.out.trans (f7.mono (fun _ _ h => SL_of3L h))⟩
      rcases hi with rfl | rfl | rfl | rfl | rfl <;> exact nS _ (by omega)
    have z5 := BT7.out.bx.e0.c
    have x5 := BT7.out.bx.e0.f
    have z4 := BT7.out.bx.n0.c
    have x4 := BT7.out.bx.n0.f
    have z6 := BT7.out.bx.d0.c
    have x6 := BT7.out.bx.d0.f
    have d1 := v7.d1.c
    have cf := (v7.bl fn hf4).c
    have hBn : b.B ≠ w.heap.size + 1 := fun e => by have := H.out.lt b.B (.inl (.inr (.inl rfl))); omega
    have hBm : b.B ≠ w.heap.size := fun e => by have := H.out.lt b.B (.inl (.inr (.inl rfl))); omega
    have hDm : b.D ≠ w.heap.size := by omega
    have nd1 : pd ≠ w.heap.size := by have := HDS.out; have := HPD.out; omega
    have nd2 : pd ≠ w.heap.size + 1 := by have := HDS.out; have := HPD.out; omega
    have hf0 : (0 : Int) ≤ (fn : Int) := by omega
    have hf4' : (fn : Int) < 4 := by omega
    clear v7 f7 hap tx p0 p1 p2
    by_cases hE : payE s.bal fn tn a = 0
    · rw [hE]
      have HE := hid hE
      rw [if_pos hE] at HRN
      rw [if_pos hE, hE, if_neg (by decide)] at HST
      clear hE
      generalize payB s.bal fn tn a fn = nv at *
      go_wp2_with fail
      have bt := ((((BT7.out.setE 0).setN nv).setD true).setN nv).setE 0
      refine leaves_td (n := nv) [(L.pair (L.clear s.lk) (fn : Int) (tn : Int)).2.1, (L.pair (L.clear s.lk) (fn : Int) (tn : Int)).1] Try.results61 rfl rfl bt.rt bt.lv bt.bx ?_
      intro w9 r9 v9 f9
      rw [← HRN.out, ← HST.out, HE.out]
      exact ⟨rfl, ⟨r9, v9, payB_ok H.out.bl hf4 ht4 a1, H.out.ul, (sum_pay hf4 ht4 hft HE.out).trans H.out.tot⟩, bt.fr.trans f9⟩
    · have hEb : (payE s.bal fn tn a != 0) = true := by simp [hE]
      have HE := hid hE
      have HU : Hid (undo (payB s.bal fn tn a) (payJ s.bal fn tn a []) = s.bal) := undo_pay hft a []
      have HJ : Hid ((if payJ s.bal fn tn a [] = [] then s.un else bump s.un) = (if payE s.bal fn tn a = 7 then bump s.un else s.un)) := by
        unfold Hid payJ payE
        by_cases c1 : s.bal fn < a
        · simp [c1]
        · by_cases c2 : 250 < s.bal tn + a
          · simp [c1, c2]
          · exfalso; apply hE; unfold payE; rw [if_neg c1, if_neg c2]
      rw [if_neg hE] at HRN
      rw [if_neg hE] at HST
      clear hE
      have HK := hid (payJ_ok (bal := s.bal) hf4 ht4 a (jr := []) (by simp))
      have HLn := hid (payJ_len s.bal fn tn a [])
      generalize payB s.bal fn tn a fn = nv at *
      generalize hev : payE s.bal fn tn a = ev at *
      have HEV := hid hev
      clear hev
      go_wp2_with fail
      have bt := (((BT7.out.setE ev).setN nv).setN nv).setE ev
      have hds := HDS.out
      have hpd := HPD.out
      refine leaves_tf (n := nv) (e := ev) [(L.pair (L.clear s.lk) (fn : Int) (tn : Int)).2.1, (L.pair (L.clear s.lk) (fn : Int) (tn : Int)).1] HE.out Try.results61 rfl rfl bt.rt bt.lv bt.bx (by omega) HK.out (by have := HLn.out; simp at this; omega) ?_
      intro w9 r9 v9 f9
      rw [HU.out, HJ.out] at v9
      rw [← HRN.out, ← HST.out, HEV.out]
      exact ⟨rfl, ⟨r9, v9, H.out.bl, by show (if ev = 7 then bump s.un else s.un) ≤ 99; have := bump_le H.out.ul (payJ s.bal fn tn a [] = []); rw [HJ.out] at this; exact this, H.out.tot⟩, bt.fr.then f9 (fun k hk c => c.elim id (fun e => by omega))⟩

end Go.Proofs.Qxb6500452a
