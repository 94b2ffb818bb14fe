/- The real ledger: Census. -/
import Derived.Test.Qxb6500452aVTran
namespace Go.Proofs.Qxb6500452a
open Go Go.RowKit
set_option maxRecDepth 100000
set_option maxHeartbeats 1600000
set_option linter.unusedSimpArgs false
set_option linter.unusedVariables false

/-- One account of the census: sum, error, locks. -/
def cen1 (bal : Nat → Int) (lk : L.St) (k : Nat) (n : Int) : Int × Int × L.St :=
  if (L.acq lk (k : Int)).2.1 = 0 then (n + bal k, 0, (L.rel (L.acq lk (k : Int)).2.2 (L.acq lk (k : Int)).1).2) else (0, (L.acq lk (k : Int)).2.1, lk)

theorem cen1_any {w : World} {b : LB} {s : Led} (h : LR w b s) {k qd qk qn qe : Nat} {n : Int} (hk : k < 4) (hn0 : 0 ≤ n) (hn1 : n ≤ 1000)
    (ad : At w qd 0 (.pointer (some ⟨b.D, 0, none⟩))) (ak : At w qk 0 (.int .i64 (k : Int))) (an : At w qn 0 (.int .i64 n)) (ae : At w qe 0 (.int .i64 0)) (ho : ∀ i, (i = qd ∨ i = qk ∨ i = qn ∨ i = qe) → ¬ SL b i) (hne : qn ≠ qe ∧ qd ≠ qn ∧ qd ≠ qe ∧ qk ≠ qn ∧ qk ≠ qe) :
    Calls Try.prog 79 #[.pointer (some ⟨qd, 0, none⟩), .pointer (some ⟨qk, 0, none⟩), .pointer (some ⟨qn, 0, none⟩), .pointer (some ⟨qe, 0, none⟩)] w fun x w' =>
      x = .returned (.tuple #[]) ∧ LR w' b ⟨(cen1 s.bal s.lk k n).2.2, s.bal, s.un⟩ ∧ At w' qn 0 (.int .i64 (cen1 s.bal s.lk k n).1) ∧ At w' qe 0 (.int .i64 (cen1 s.bal s.lk k n).2.1) ∧ Fr (fun i => SL b i ∨ i = qn ∨ i = qe) w w' := by
  have c0 := ad.c
  have c1 := ak.c
  have d0 := h.lv.d0.c
  have H := hid h
  have HO := hid ho
  have nS : ∀ i, (i = qd ∨ i = qk ∨ i = qn ∨ i = qe) → ¬ S3 b.T b.C b.R i := fun i hi c => ho i hi (SL_of3 c)
  have NS := hid nS
  have HNE := hid hne
  have AD := hid ad
  have AK := hid ak
  have AN := hid an
  have AE := hid ae
  have hnD : ¬ S3 b.T b.C b.R b.D := h.lv.ok.nd
  have HND := hid hnD
  have HACQ := hid (fun W (hW : Fr (fun _ => False) w W) => acquire_any (h.rt.fr hW (fun h => h) (fun h => h) (fun h => h)) (k : Int))
  clear h ho ad ak an ae hnD nS hne
  by_cases hE : (L.acq s.lk (k : Int)).2.1 = 0
  · have HR : Hid (cen1 s.bal s.lk k n = (n + s.bal k, 0, (L.rel (L.acq s.lk (k : Int)).2.2 (L.acq s.lk (k : Int)).1).2)) := by unfold Hid cen1; rw [if_pos hE]
    rw [HR.out]
    have HE := hid hE
    clear hE HR
    go_enter_defers Try.func79, Try.ntmps79
    go_wp2_with fail
    go_region_held3 (fun W => W.cell? ⟨qd, 0, none⟩ = some (.pointer (some ⟨b.D, 0, none⟩)) ∧ W.cell? ⟨b.D, 0, none⟩ = some (.pointer (some ⟨b.T, 0, none⟩)) ∧ W.cell? ⟨qk, 0, none⟩ = some (.int .i64 (k : Int))) (go_keep) (first | (go_at_call 49; refine (HACQ.out _ ((Fr.refl (fun _ => False) w).drew)).mono ?_; rintro e y ⟨rfl, ry, gy⟩; have y0 : y.cell? ⟨qd, 0, none⟩ = some (.pointer (some ⟨b.D, 0, none⟩)) := cellFr gy (NS.out _ (by simp)) (by simp [*]); have y1 : y.cell? ⟨b.D, 0, none⟩ = some (.pointer (some ⟨b.T, 0, none⟩)) := cellFr gy HND.out (by simp [*]); have y2 : y.cell? ⟨qk, 0, none⟩ = some (.int .i64 (k : Int)) := cellFr gy (NS.out _ (by simp)) (by simp [*])))
    rw [HE.out]
    have D0 := hid ((Fr.refl (fun _ => False) w).drew)
    have L1 := hid ((H.out.fr D0.out (fun _ _ h => h)).lock ry gy)
    have G1 := hid (D0.out.mono (S' := S3 b.T b.C b.R) (fun _ _ h => h.elim) |>.trans gy)
    have B0 := hid (AN.out.fr G1.out (NS.out _ (by simp)))
    have B1 := hid (AE.out.fr G1.out (NS.out _ (by simp)))
    have d1 := L1.out.lv.d1.c
    have cb := (L1.out.lv.bl k hk).c
    have z0 := B0.out.c
    have x0 := B0.out.f
    have hbk := H.out.bl k hk
    have hk0 : (0 : Int) ≤ (k : Int) := by omega
    have hk4 : (k : Int) < 4 := by omega
    clear ry gy
    go_upto_region 4 with fail
    go_region
    have L2 := hid ((L1.out.set1 (HO.out qn (by simp)) (.int .i64 (n + s.bal k))).fr ((Fr.refl (fun _ => False) _).drew) (fun _ _ h => h))
    have C0 := hid ((B0.out.same (.int .i64 (n + s.bal k))).drew)
    have C1 := hid ((B1.out.other (b' := qn) (o' := 0) (fun e _ => HNE.out.1 e) (.int .i64 (n + s.bal k))).drew)
    have F2 : Hid (Fr (fun i => SL b i ∨ i = qn ∨ i = qe) w (y.setCell ⟨qn, 0, none⟩ (.int .i64 (n + s.bal k))).drew) := ((G1.out.mono (S' := fun i => SL b i ∨ i = qn ∨ i = qe) (fun _ _ h => .inl (SL_of3 h))).setCell (p := ⟨qn, 0, none⟩) (fun _ => .inr (.inl rfl)) _).drew
    go_wp2_with fail
    refine leaves_cons (f := 50) (args := #[.pointer (some ⟨b.T, 0, none⟩), .int .i64 (L.acq s.lk (k : Int)).1]) (by simp) (by simp [go_sem]) ?_
    refine (release_d L2.out.rt _ .returning).mono ?_
    rintro e u w3 ⟨rfl, rfl, r3, f3⟩
    refine ⟨.tuple #[], ?_, rfl, L2.out.lock r3 f3, C0.out.fr f3 (NS.out _ (by simp)), C1.out.fr f3 (NS.out _ (by simp)), F2.out.trans (f3.mono (fun _ _ h => .inl (SL_of3 h)))⟩
    simp [results, Try.results79, go_sem]
  · have HR : Hid (cen1 s.bal s.lk k n = (0, (L.acq s.lk (k : Int)).2.1, s.lk)) := by unfold Hid cen1; rw [if_neg hE]
    rw [HR.out]
    have HQ := hid (acq_err (s := s.lk) (k := (k : Int)) hE)
    have hEb : ((L.acq s.lk (k : Int)).2.1 != 0) = true := by simp [hE]
    clear hE HR
    go_enter_defers Try.func79, Try.ntmps79
    go_wp2_with fail
    go_region_held3 (fun W => W.cell? ⟨qd, 0, none⟩ = some (.pointer (some ⟨b.D, 0, none⟩)) ∧ W.cell? ⟨b.D, 0, none⟩ = some (.pointer (some ⟨b.T, 0, none⟩)) ∧ W.cell? ⟨qk, 0, none⟩ = some (.int .i64 (k : Int))) (go_keep) (first | (go_at_call 49; refine (HACQ.out _ ((Fr.refl (fun _ => False) w).drew)).mono ?_; rintro e y ⟨rfl, ry, gy⟩; have y0 : y.cell? ⟨qd, 0, none⟩ = some (.pointer (some ⟨b.D, 0, none⟩)) := cellFr gy (NS.out _ (by simp)) (by simp [*]); have y1 : y.cell? ⟨b.D, 0, none⟩ = some (.pointer (some ⟨b.T, 0, none⟩)) := cellFr gy HND.out (by simp [*]); have y2 : y.cell? ⟨qk, 0, none⟩ = some (.int .i64 (k : Int)) := cellFr gy (NS.out _ (by simp)) (by simp [*])))
    have D0 := hid ((Fr.refl (fun _ => False) w).drew)
    have L1 := hid ((H.out.fr D0.out (fun _ _ h => h)).lock ry gy)
    have G1 := hid (D0.out.mono (S' := S3 b.T b.C b.R) (fun _ _ h => h.elim) |>.trans gy)
    have B0 := hid (AN.out.fr G1.out (NS.out _ (by simp)))
    have B1 := hid (AE.out.fr G1.out (NS.out _ (by simp)))
    have z0 := B0.out.c
    have x0 := B0.out.f
    have z1 := B1.out.c
    have x1 := B1.out.f
    have nn := HNE.out.1
    clear ry gy
    go_wp2_with fail
    have L2 := (L1.out.set1 (HO.out qn (by simp)) (.int .i64 0)).set1 (HO.out qe (by simp)) (.int .i64 (L.acq s.lk (k : Int)).2.1)
    rw [HQ.out] at L2
    refine ⟨.tuple #[], ?_, rfl, L2, (B0.out.same (.int .i64 0)).other (fun e _ => HNE.out.1 e.symm) _, (B1.out.other (b' := qn) (o' := 0) (fun e _ => HNE.out.1 e) (.int .i64 0)).same _, ?_⟩
    · simp [results, Try.results79, go_sem]
    · exact ((G1.out.mono (S' := fun i => SL b i ∨ i = qn ∨ i = qe) (fun _ _ h => .inl (SL_of3 h))).setCell (p := ⟨qn, 0, none⟩) (fun _ => .inr (.inl rfl)) _).setCell (p := ⟨qe, 0, none⟩) (fun _ => .inr (.inr rfl)) _

theorem cen1_n {bal : Nat → Int} {lk : L.St} {k : Nat} {n : Int} (hb : ∀ k, k < 4 → 0 ≤ bal k ∧ bal k ≤ 250) (hk : k < 4) (h0 : 0 ≤ n) (h1 : n ≤ 250 * k) : 0 ≤ (cen1 bal lk k n).1 ∧ (cen1 bal lk k n).1 ≤ 250 * (k + 1 : Nat) := by
  have := hb k hk
  unfold cen1
  split
  · simp only; omega
  · simp only; omega

def cenL (bal : Nat → Int) : Nat → Nat → L.St → Int → Int × Int × L.St
  | 0, _, lk, n => (n, 0, lk)
  | j+1, k, lk, n => if (cen1 bal lk k n).2.1 = 0 then cenL bal j (k+1) (cen1 bal lk k n).2.2 (cen1 bal lk k n).1 else cen1 bal lk k n
def cenA (s : Led) : Int × Int × L.St := cenL s.bal 4 0 (L.clear s.lk) 0
def cenS (s : Led) : Led := ⟨(cenA s).2.2, s.bal, s.un⟩

def boxN (v : Value) (w : World) : Nat :=
  match v with
  | .pointer (some a) => (match w.cell? a with | some x => (intOf x).toNat | none => 0)
  | _ => 0
theorem boxN_at {w : World} {b : Nat} {k : Nat} (h : At w b 0 (.int .i64 (k : Int))) : boxN (.pointer (some ⟨b, 0, none⟩)) w = k := by
  simp [boxN, h.c, intOf]

structure Cn (w0 w : World) (b : LB) (s : Led) (pd pn pe q k : Nat) (n e : Int) (lk : L.St) : Prop where
  lr : LR w b ⟨lk, s.bal, s.un⟩
  ad : At w pd 0 (.pointer (some ⟨b.D, 0, none⟩))
  an : At w pn 0 (.int .i64 n)
  ae : At w pe 0 (.int .i64 e)
  ak : At w q 0 (.int .i64 (k : Int))
  lt : w0.heap.size ≤ pd ∧ pd < pn ∧ pn < pe ∧ pe < q
  k4 : k ≤ 4
  n0 : 0 ≤ n ∧ n ≤ 250 * k
  fin : (if e = 0 then cenL s.bal (4 - k) k lk n else (n, e, lk)) = cenA s
  fr : Fr (SL b) w0 w

theorem cen_end {w wr : World} {b : LB} {s : Led} {pd pn pe q k : Nat} {n e : Int} {lk : L.St} (C : Cn w wr b s pd pn pe q k n e lk) (hf : (n, e, lk) = cenA s) (NS : ∀ i, pd ≤ i → ¬ SL b i) :
    (.returned (.tuple #[.int .i64 n, .int .i64 e]) : Ending) = .returned (.tuple #[.int .i64 (cenA s).1, .int .i64 (cenA s).2.1]) ∧ LR ((wr.setCell ⟨pn, 0, none⟩ (.int .i64 n)).setCell ⟨pe, 0, none⟩ (.int .i64 e)).drew b (cenS s) ∧ Fr (SL b) w ((wr.setCell ⟨pn, 0, none⟩ (.int .i64 n)).setCell ⟨pe, 0, none⟩ (.int .i64 e)).drew := by
  unfold cenS
  rw [← hf]
  have hl := C.lt
  refine ⟨rfl, ((C.lr.set1 (NS pn (by omega)) _).set1 (NS pe (by omega)) _).fr ((Fr.refl (fun _ => False) _).drew) (fun _ _ h => h), ?_⟩
  exact ((C.fr.setN (b := pn) (by omega) 0 _).setN (b := pe) (by omega) 0 _).drew

theorem census_any {w : World} {b : LB} {s : Led} (h : LR w b s) :
    Calls Try.prog 57 #[.pointer (some ⟨b.D, 0, none⟩)] w fun e w' => e = .returned (.tuple #[.int .i64 (cenA s).1, .int .i64 (cenA s).2.1]) ∧ LR w' b (cenS s) ∧ Fr (SL b) w w' := by
  have H := hid h
  have d0 := h.lv.d0.c
  have hmf : ∀ (fn : Fn) (first cap : Array Value) (w : World), (Instr.makeFunc fn first cap).run Try.prog w = .ok (.func fn first cap) w := fun _ _ _ _ => rfl
  have hD := h.lv.d0.lt
  clear h
  have A1 : Hid (At (((w.alloc (.cells #[.pointer (some ⟨b.D, 0, none⟩)] 27)).alloc (.cells #[.int .i64 0] 3)).alloc (.cells #[.int .i64 0] 34)) w.heap.size 0 (.pointer (some ⟨b.D, 0, none⟩))) :=
    ((At.new w _ _ (o := 0) rfl).alloc _).alloc _
  have A2 : Hid (At (((w.alloc (.cells #[.pointer (some ⟨b.D, 0, none⟩)] 27)).alloc (.cells #[.int .i64 0] 3)).alloc (.cells #[.int .i64 0] 34)) (w.heap.size + 1) 0 (.int .i64 0)) := by
    have := (At.new (w.alloc (.cells #[.pointer (some ⟨b.D, 0, none⟩)] 27)) #[.int .i64 0] 3 (o := 0) rfl).alloc (.cells #[.int .i64 0] 34)
    simp only [World.size_alloc] at this
    exact this
  have A3 : Hid (At (((w.alloc (.cells #[.pointer (some ⟨b.D, 0, none⟩)] 27)).alloc (.cells #[.int .i64 0] 3)).alloc (.cells #[.int .i64 0] 34)) (w.heap.size + 1 + 1) 0 (.int .i64 0)) := by
    have := At.new ((w.alloc (.cells #[.pointer (some ⟨b.D, 0, none⟩)] 27)).alloc (.cells #[.int .i64 0] 3)) #[.int .i64 0] 34 (o := 0) rfl
    simp only [World.size_alloc] at this
    exact this
  have FA : Hid (Fr (fun _ => False) w (((w.alloc (.cells #[.pointer (some ⟨b.D, 0, none⟩)] 27)).alloc (.cells #[.int .i64 0] 3)).alloc (.cells #[.int .i64 0] 34))) := (((Fr.refl _ _).alloc _).alloc _).alloc _
  go_enter Try.func57, Try.ntmps57
  go_upto_region 1 with fail
  generalize ((w.alloc (.cells #[.pointer (some ⟨b.D, 0, none⟩)] 27)).alloc (.cells #[.int .i64 0] 3)).alloc (.cells #[.int .i64 0] 34) = w1 at *
  have L1 := hid (H.out.fr FA.out (fun _ _ h => h))
  have c1 := A1.out.c
  have c2 := L1.out.lv.d0.c
  go_wp2_with fail
  refine (clear_any L1.out.rt).mono ?_
  rintro e w2 ⟨rfl, r2, f2⟩
  have nS : ∀ i, w.heap.size ≤ i → ¬ SL b i := fun i hi c => by have := H.out.lt i c; omega
  have NS := hid nS
  have n3 : ∀ i, w.heap.size ≤ i → ¬ S3 b.T b.C b.R i := fun i hi c => by have := H.out.lt i (SL_of3 c); omega
  have HL : Hid (w.heap.size + 1 + 1 < w2.heap.size) := (A3.out.fr f2 (n3 _ (by omega))).lt
  have CN : Hid (Cn w (w2.alloc (.cells #[.int .i64 0] 3)) b s w.heap.size (w.heap.size + 1) (w.heap.size + 1 + 1) w2.heap.size 0 0 0 (L.clear s.lk)) := by
    have hl := HL.out
    have fx : Fr (fun _ => False) w2 (w2.alloc (.cells #[.int .i64 0] 3)) := (Fr.refl _ _).alloc _
    have L2 := L1.out.lock r2 f2
    refine ⟨L2.fr fx (fun i hi e => e), (A1.out.fr f2 (n3 _ (by omega))).alloc _, (A2.out.fr f2 (n3 _ (by omega))).alloc _, (A3.out.fr f2 (n3 _ (by omega))).alloc _, At.new w2 _ _ (o := 0) rfl, by omega, by omega, by omega, by rw [if_pos rfl]; rfl, ?_⟩
    exact ((FA.out.mono (fun _ _ h => h.elim)).trans (f2.mono (fun _ _ h => SL_of3 h))).alloc _
  clear r2 f2 nS n3 L1 A1 A2 A3 FA c1 c2
  generalize hq : w2.heap.size = q at *
  go_wp2_with fail
  generalize hpd : w.heap.size = pd at *
  generalize hpn : pd + 1 = pn at *
  generalize hpe : pn + 1 = pe at *
  clear hq hpd hpn hpe HL hD d0
  go_loopw [4] (fun v wr => ∃ (q k : Nat) (n e : Int) (lk : L.St), v = .pointer (some ⟨q, 0, none⟩) ∧ Cn w wr b s pd pn pe q k n e lk) (fun v wr => 4 - boxN v wr)
  case atStart => exact ⟨q, 0, 0, 0, L.clear s.lk, rfl, CN.out⟩
  case round =>
    clear CN
    obtain ⟨q, k, n, e, lk, rfl, C⟩ := hrel
    have HC := hid C
    have c3 := C.ae.c
    have c4 := C.ak.c
    have c2 := C.an.c
    have x2 := C.an.f
    have x3 := C.ae.f
    have x4 := C.ak.f
    have n32 : pn ≠ pe := by have := C.lt; omega
    have hk0 : (0 : Int) ≤ (k : Int) := by omega
    by_cases hk : k < 4
    · have hkI : (k : Int) < 4 := by omega
      by_cases he : e = 0
      · subst he
        have h1 : n ≤ 1000 := by have := C.n0; omega
        have hl := C.lt
        have HCA := hid (cen1_any C.lr hk C.n0.1 h1 C.ad C.ak C.an C.ae (fun i hi => NS.out i (by omega)) (by omega))
        have hb := C.lr.bl
        have HN := hid (cen1_n (lk := lk) (n := n) hb hk C.n0.1 C.n0.2)
        have HF : Hid ((if (cen1 s.bal lk k n).2.1 = 0 then cenL s.bal (4 - (k + 1)) (k + 1) (cen1 s.bal lk k n).2.2 (cen1 s.bal lk k n).1 else cen1 s.bal lk k n) = cenA s) := by
          have := C.fin
          rw [if_pos rfl] at this
          rw [show 4 - k = (4 - (k + 1)) + 1 by omega] at this
          exact this
        clear C hl h1 hb
        simp only at HCA HN
        generalize cen1 s.bal lk k n = r at *
        obtain ⟨rn, re, rl⟩ := r
        simp only at HCA HN HF
        go_wp2_with fail
        refine HCA.out.mono ?_
        rintro e w3 ⟨rfl, l3, a2, a3, f3⟩
        have hlt := HC.out.lt
        have a4 := HC.out.ak.fr f3 (fun c => c.elim (NS.out q (by omega)) (by omega))
        have k4 := a4.c
        have x4' := a4.f
        have HQ : Hid (q < w3.heap.size) := a4.lt
        have CN' : Hid (Cn w (w3.alloc (.cells #[.int .i64 ((k : Int) + 1)] 3)) b s pd pn pe w3.heap.size (k + 1) rn re rl) := by
          have a1 := HC.out.ad.fr f3 (fun c => c.elim (NS.out pd (by omega)) (by omega))
          have hq := HQ.out
          have hn := HN.out
          have fx : Fr (fun _ => False) w3 (w3.alloc (.cells #[.int .i64 ((k : Int) + 1)] 3)) := (Fr.refl _ w3).alloc _
          refine ⟨l3.fr fx (fun i hi e => e), a1.fr fx id, a2.fr fx id, a3.fr fx id, At.new w3 _ _ (o := 0) rfl, by omega, by omega, hn, HF.out, ?_⟩
          exact (HC.out.fr.then f3 (fun i hi c => c.elim id (by omega))).then fx (fun i hi e => e.elim)
        clear l3 a2 a3 f3 a4 c2 c3 c4 x2 x3 x4
        go_wp2_with fail
        refine ⟨⟨_, _, _, _, _, rfl, CN'.out⟩, ?_⟩
        have e1 := boxN_at CN'.out.ak
        have e2 := boxN_at HC.out.ak
        rw [e1, e2]
        omega
      · have heb : (e == 0) = false := by simp [he]
        have HFI : Hid ((n, e, lk) = cenA s) := by have := C.fin; rw [if_neg he] at this; exact this
        clear C he
        go_wp2_with fail
        go_region
        go_wp2_with fail
        refine bodyPost_ret (v := .tuple #[.int .i64 n, .int .i64 e]) ?_ rfl (cen_end HC.out HFI.out NS.out)
        simp [results, Try.results57, go_sem, c2, c3, x2, x3, n32, n32.symm]
    · have hkI : ¬ (k : Int) < 4 := by omega
      have hk' : k = 4 := by have := C.k4; omega
      have HFI : Hid ((n, e, lk) = cenA s) := by
        have := C.fin; subst hk'; by_cases he : e = 0
        · subst he; exact this
        · rw [if_neg he] at this; exact this
      clear C hk'
      go_wp2_with fail
      go_region
      go_wp2_with fail
      refine bodyPost_ret (v := .tuple #[.int .i64 n, .int .i64 e]) ?_ rfl (cen_end HC.out HFI.out NS.out)
      simp [results, Try.results57, go_sem, c2, c3, x2, x3, n32, n32.symm]

end Go.Proofs.Qxb6500452a
