/- The gate: run. -/
import Derived.Test.Qxb6500452aGRun
namespace Go.Proofs.Qxb6500452a
open Go Go.RowKit
set_option maxRecDepth 100000
set_option maxHeartbeats 1600000
set_option linter.unusedSimpArgs false
set_option linter.unusedVariables false

theorem bal_small {s : Led} (bl : ∀ k, k < 4 → 0 ≤ s.bal k ∧ s.bal k ≤ 250) (k : Int) : 0 ≤ balN s k ∧ balN s k ≤ 250 := by
  unfold balN
  split
  · rename_i h
    obtain ⟨k0, k4⟩ := acq_zero h
    exact bl k.toNat (by omega)
  · omega
theorem spl_small {s : Led} (bl : ∀ k, k < 4 → 0 ≤ s.bal k ∧ s.bal k ≤ 250) (k p : Int) : 0 ≤ splN s k p ∧ splN s k p ≤ 250 := by
  unfold splN
  split
  · omega
  · split
    · rename_i hp h
      obtain ⟨k0, k4⟩ := acq_zero h
      have hb := bl k.toNat (by omega)
      exact ⟨Int.tdiv_nonneg hb.1 (by omega), Int.le_trans (Int.tdiv_le_self _ hb.1) hb.2⟩
    · omega
theorem tr_small {s : Led} (bl : ∀ k, k < 4 → 0 ≤ s.bal k ∧ s.bal k ≤ 250) (f t a : Int) : 0 ≤ trN s f t a ∧ trN s f t a ≤ 250 := by
  unfold trN
  split
  · rename_i h
    unfold trE at h
    split at h
    · rename_i hc; exact absurd h hc
    · rename_i hc
      obtain ⟨fn, tn, rfl, rfl, hf4, ht4, hne, a1, a2⟩ := chk_ok (Classical.not_not.1 hc)
      simp only [Int.toNat_natCast]
      exact payB_ok bl hf4 ht4 a1 fn hf4
  · omega
theorem run_le : ∀ (ms : List Mv) (i : Nat) (x : BS), (runB i ms x).1 ≤ i + ms.length
  | [], i, x => Nat.le_refl _
  | m :: ms, i, x => by
    unfold runB
    split
    · simp
    · have := run_le ms (i + 1) (move1 x m).2
      simp only [List.length_cons]; omega
theorem bat_small (s : Led) (ms : List Mv) : 0 ≤ batN s ms ∧ batN s ms ≤ 3 := by
  unfold batN
  split
  · omega
  · have := run_le ms 0 s.start
    omega
theorem cen_small {s : Led} (bl : ∀ k, k < 4 → 0 ≤ s.bal k ∧ s.bal k ≤ 250) : 0 ≤ (cenA s).1 ∧ (cenA s).1 ≤ 1000 := by
  have key : ∀ (j k : Nat) (lk : L.St) (n : Int), j + k = 4 → 0 ≤ n → n ≤ 250 * (k : Int) → 0 ≤ (cenL s.bal j k lk n).1 ∧ (cenL s.bal j k lk n).1 ≤ 1000 := by
    intro j
    induction j with
    | zero => intro k lk n hk h0 h1; show 0 ≤ n ∧ n ≤ 1000; omega
    | succ j ih =>
      intro k lk n hk h0 h1
      have hb := bl k (by omega)
      have e : cenL s.bal (j + 1) k lk n = (if (cen1 s.bal lk k n).2.1 = 0 then cenL s.bal j (k+1) (cen1 s.bal lk k n).2.2 (cen1 s.bal lk k n).1 else cen1 s.bal lk k n) := rfl
      rw [e]
      have hc : (cen1 s.bal lk k n).1 = n + s.bal k ∨ (cen1 s.bal lk k n).1 = 0 := by unfold cen1; split <;> simp
      have hz : 0 ≤ (cen1 s.bal lk k n).1 ∧ (cen1 s.bal lk k n).1 ≤ 250 * ((k + 1 : Nat) : Int) := by rcases hc with h | h <;> rw [h] <;> omega
      split
      · rename_i h
        exact ih (k + 1) (cen1 s.bal lk k n).2.2 (cen1 s.bal lk k n).1 (by omega) hz.1 hz.2
      · omega
  exact key 4 0 (L.clear s.lk) 0 rfl (by omega) (by omega)

theorem MvsAt.fr {w w' : World} {a : Option Addr} {ms : List Mv} (h : MvsAt w a ms) (hf : Fr (fun _ => False) w w') : MvsAt w' a ms := by
  rcases h with h | ⟨B, off, e, hB, hc⟩
  · exact .inl h
  · refine .inr ⟨B, off, e, Nat.lt_of_lt_of_le hB hf.size, fun i hi => ?_⟩
    obtain ⟨c0, c1, c2⟩ := hc i hi
    exact ⟨cellFr hf (fun h => h) c0, cellFr hf (fun h => h) c1, cellFr hf (fun h => h) c2⟩

/-- What run answers: an answer and an error, or a panic of the runtime. -/
def runP (s : Led) (c : Cmd) : Option (ByteArray × Int) :=
  if c.verb = 65 then some (shA c.verb (cenA s).1 (cenA s).2.1, (cenA s).2.1)
  else if c.verb = 66 then some (shA c.verb (balN s c.m.f) (acqE s c.m.f), acqE s c.m.f)
  else if c.verb = 78 then (if c.m.f < 4 then some (L.bs (nameL c.m.f.toNat), 0) else none)
  else if c.verb = 83 then (if c.m.t = 0 ∧ acqE s c.m.f = 0 then none else some (shA c.verb (splN s c.m.f c.m.t) (splE s c.m.f c.m.t), splE s c.m.f c.m.t))
  else if c.verb = 84 then some (shA c.verb (trN s c.m.f c.m.t c.m.a) (trE s c.m.f c.m.t c.m.a), trE s c.m.f c.m.t c.m.a)
  else some (shA c.verb (batN s c.ms) (batE s c.ms), batE s c.ms)
def runS (s : Led) (c : Cmd) : Led :=
  if c.verb = 65 then cenS s
  else if c.verb = 66 then oneS s c.m.f
  else if c.verb = 78 then s
  else if c.verb = 83 then (if c.m.t = 0 ∧ acqE s c.m.f = 0 then oneS s c.m.f else splS s c.m.f c.m.t)
  else if c.verb = 84 then trS s c.m.f c.m.t c.m.a
  else batS s c.ms
def RunPost (r : Option (ByteArray × Int)) (e : Ending) : Prop :=
  match r with
  | some x => e = .returned (.tuple #[.string x.1, .int .i64 x.2])
  | none => OutP e

theorem run_cen {w : World} {G : Nat} {b : LB} {s : Led} (h : LR w b s) (g0 : At w G 0 (.pointer (some ⟨b.D, 0, none⟩))) (hG : ¬ SL b G) (c : Cmd) (hv : c.verb = 65) (v : Value) :
    Calls Try.prog 34 #[.pointer (some ⟨G, 0, none⟩), .agg #[.int .u8 (c.verb.toNat : Int), .int .i64 c.m.f, .int .i64 c.m.t, .int .i64 c.m.a, v]] w fun e w' => RunPost (runP s c) e ∧ LR w' b (runS s c) ∧ Fr (SL b) w w' := by
  obtain ⟨verb, ⟨mf, mt, ma⟩, ms⟩ := c
  simp only at hv
  subst hv
  have HP : Hid (runP s ⟨65, ⟨mf, mt, ma⟩, ms⟩ = some (shA 65 (cenA s).1 (cenA s).2.1, (cenA s).2.1) ∧ runS s ⟨65, ⟨mf, mt, ma⟩, ms⟩ = cenS s) := by
    simp [Hid, runP, runS]
  rw [HP.out.1, HP.out.2]
  clear HP
  simp only
  have H := hid h
  have HL := hid h.lt
  have hGl := g0.lt
  have G0 := hid g0
  have hvn : ((65 : UInt8).toNat : Int) = 65 := rfl
  rw [hvn]
  clear h g0 hvn
  go_enter Try.func34, Try.ntmps34
  go_upto_region 1 with fail
  have FA := hid ((Fr.refl (fun _ => False) w).alloc (.cells #[.int .u8 65, .int .i64 mf, .int .i64 mt, .int .i64 ma, v] 59))
  have KA : Hid (∀ q u, (#[.int .u8 65, .int .i64 mf, .int .i64 mt, .int .i64 ma, v] : Array Value)[q]? = some u → At (w.alloc (.cells #[.int .u8 65, .int .i64 mf, .int .i64 mt, .int .i64 ma, v] 59)) w.heap.size q u) := fun q u hu => At.new w _ _ hu
  have R0 := hid (H.out.fr FA.out (fun _ _ h => h))
  have GA := hid (G0.out.fr FA.out (fun h => h))
  have NK : Hid (¬ SL b w.heap.size) := fun c => by have := HL.out _ c; omega
  have hne : G ≠ w.heap.size := Nat.ne_of_lt hGl
  generalize w.alloc (.cells #[.int .u8 65, .int .i64 mf, .int .i64 mt, .int .i64 ma, v] 59) = w0 at *
  obtain ⟨pK, hpK⟩ : ∃ pK, pK = w.heap.size := ⟨_, rfl⟩
  rw [← hpK] at KA NK hne ⊢
  have HPK := hid hpK
  clear hpK H G0
  have k0 := (KA.out 0 _ rfl).c
  have k1 := (KA.out 1 _ rfl).c
  have k2 := (KA.out 2 _ rfl).c
  have k3 := (KA.out 3 _ rfl).c
  have k4 := (KA.out 4 _ rfl).c
  have g := GA.out.c
  go_wp2_with fail
  refine (census_any R0.out).mono ?_
  rintro e w1 ⟨rfl, r1, f1⟩
  have R1 := hid r1
  have F1 := hid f1
  clear r1 f1
  have K1 := hid (fun q u hu => (KA.out q u hu).fr F1.out NK.out)
  have hsm := cen_small R0.out.bl
  clear k0 k1 k2 k3 k4 g KA
  have k0 := (K1.out 0 _ rfl).c
  go_wp2_with fail
  have hsh := shape_any (65 : UInt8) (n := (cenA s).1) (e := (cenA s).2.1) (by omega) (by omega) w1
  rw [show (((65 : UInt8).toNat : Int)) = 65 from rfl] at hsh
  refine hsh.mono ?_
  rintro e w2 ⟨rfl, f2⟩
  go_wp2_with fail
  go_ret2
  exact ⟨rfl, R1.out.fr f2 (fun _ _ h => h), ((FA.out.mono (fun _ _ h => h.elim)).trans F1.out).trans (f2.mono (fun _ _ h => h.elim))⟩

theorem run_bal {w : World} {G : Nat} {b : LB} {s : Led} (h : LR w b s) (g0 : At w G 0 (.pointer (some ⟨b.D, 0, none⟩))) (hG : ¬ SL b G) (c : Cmd) (hv : c.verb = 66) (v : Value) :
    Calls Try.prog 34 #[.pointer (some ⟨G, 0, none⟩), .agg #[.int .u8 (c.verb.toNat : Int), .int .i64 c.m.f, .int .i64 c.m.t, .int .i64 c.m.a, v]] w fun e w' => RunPost (runP s c) e ∧ LR w' b (runS s c) ∧ Fr (SL b) w w' := by
  obtain ⟨verb, ⟨mf, mt, ma⟩, ms⟩ := c
  simp only at hv
  subst hv
  have HP : Hid (runP s ⟨66, ⟨mf, mt, ma⟩, ms⟩ = some (shA 66 (balN s mf) (acqE s mf), acqE s mf) ∧ runS s ⟨66, ⟨mf, mt, ma⟩, ms⟩ = oneS s mf) := by
    simp [Hid, runP, runS]
  rw [HP.out.1, HP.out.2]
  clear HP
  simp only
  have H := hid h
  have HL := hid h.lt
  have hGl := g0.lt
  have G0 := hid g0
  have hvn : ((66 : UInt8).toNat : Int) = 66 := rfl
  rw [hvn]
  clear h g0 hvn
  go_enter Try.func34, Try.ntmps34
  go_upto_region 1 with fail
  have FA := hid ((Fr.refl (fun _ => False) w).alloc (.cells #[.int .u8 66, .int .i64 mf, .int .i64 mt, .int .i64 ma, v] 59))
  have KA : Hid (∀ q u, (#[.int .u8 66, .int .i64 mf, .int .i64 mt, .int .i64 ma, v] : Array Value)[q]? = some u → At (w.alloc (.cells #[.int .u8 66, .int .i64 mf, .int .i64 mt, .int .i64 ma, v] 59)) w.heap.size q u) := fun q u hu => At.new w _ _ hu
  have R0 := hid (H.out.fr FA.out (fun _ _ h => h))
  have GA := hid (G0.out.fr FA.out (fun h => h))
  have NK : Hid (¬ SL b w.heap.size) := fun c => by have := HL.out _ c; omega
  have hne : G ≠ w.heap.size := Nat.ne_of_lt hGl
  generalize w.alloc (.cells #[.int .u8 66, .int .i64 mf, .int .i64 mt, .int .i64 ma, v] 59) = w0 at *
  obtain ⟨pK, hpK⟩ : ∃ pK, pK = w.heap.size := ⟨_, rfl⟩
  rw [← hpK] at KA NK hne ⊢
  have HPK := hid hpK
  clear hpK H G0
  have k0 := (KA.out 0 _ rfl).c
  have k1 := (KA.out 1 _ rfl).c
  have k2 := (KA.out 2 _ rfl).c
  have k3 := (KA.out 3 _ rfl).c
  have k4 := (KA.out 4 _ rfl).c
  have g := GA.out.c
  go_upto_region 6 with fail
  go_region_held3 (fun W => W.cell? ⟨G, 0, none⟩ = some (.pointer (some ⟨b.D, 0, none⟩)) ∧ W.cell? ⟨pK, 1, none⟩ = some (.int .i64 mf)) (go_keep) (first | (go_at_call 58; refine (balance_any (R0.out.fr ((Fr.refl (fun _ => False) w0).drew) (fun _ _ h => h)) mf).mono ?_; rintro e w1 ⟨rfl, r1, f1⟩; have zg : w1.cell? ⟨G, 0, none⟩ = some (.pointer (some ⟨b.D, 0, none⟩)) := cellFr f1 hG (by simp [*]); have z1 : w1.cell? ⟨pK, 1, none⟩ = some (.int .i64 mf) := cellFr f1 NK.out (by simp [*])))
  go_upto_region 15 with fail
  have R1 := hid r1
  have F1 := hid ((Fr.refl (SL b) w0).drew.trans f1)
  clear r1 f1
  have K1 := hid (fun q u hu => (KA.out q u hu).fr F1.out NK.out)
  have hsm := bal_small R0.out.bl mf
  clear k0 k1 k2 k3 k4 g KA
  have k0 := (K1.out 0 _ rfl).c
  go_wp2_with fail
  have hsh := shape_any (66 : UInt8) (n := balN s mf) (e := acqE s mf) (by omega) (by omega) w1
  rw [show (((66 : UInt8).toNat : Int)) = 66 from rfl] at hsh
  refine hsh.mono ?_
  rintro e w2 ⟨rfl, f2⟩
  go_wp2_with fail
  go_ret2
  exact ⟨rfl, R1.out.fr f2 (fun _ _ h => h), ((FA.out.mono (fun _ _ h => h.elim)).trans F1.out).trans (f2.mono (fun _ _ h => h.elim))⟩

theorem run_nam {w : World} {G : Nat} {b : LB} {s : Led} (h : LR w b s) (g0 : At w G 0 (.pointer (some ⟨b.D, 0, none⟩))) (hG : ¬ SL b G) (c : Cmd) (hv : c.verb = 78) (h0 : 0 ≤ c.m.f) (h9 : c.m.f ≤ 9) (v : Value) :
    Calls Try.prog 34 #[.pointer (some ⟨G, 0, none⟩), .agg #[.int .u8 (c.verb.toNat : Int), .int .i64 c.m.f, .int .i64 c.m.t, .int .i64 c.m.a, v]] w fun e w' => RunPost (runP s c) e ∧ LR w' b (runS s c) ∧ Fr (SL b) w w' := by
  obtain ⟨verb, ⟨mf, mt, ma⟩, ms⟩ := c
  simp only at hv h0 h9
  subst hv
  by_cases h4 : mf < 4
  · obtain ⟨n, rfl⟩ : ∃ n : Nat, mf = (n : Int) := ⟨mf.toNat, by omega⟩
    have hn : n < 4 := by omega
    have hnI : (n : Int) < 4 := by omega
    have HP : Hid (runP s ⟨78, ⟨(n : Int), mt, ma⟩, ms⟩ = some (L.bs (nameL n), 0) ∧ runS s ⟨78, ⟨(n : Int), mt, ma⟩, ms⟩ = s) := by
      simp [Hid, runP, runS, hnI]
    rw [HP.out.1, HP.out.2]
    clear HP
    simp only
    have H := hid h
    have HL := hid h.lt
    have hGl := g0.lt
    have G0 := hid g0
    have hvn : ((78 : UInt8).toNat : Int) = 78 := rfl
    rw [hvn]
    clear h g0 hvn
    go_enter Try.func34, Try.ntmps34
    go_upto_region 1 with fail
    have FA := hid ((Fr.refl (fun _ => False) w).alloc (.cells #[.int .u8 78, .int .i64 (n : Int), .int .i64 mt, .int .i64 ma, v] 59))
    have KA : Hid (∀ q u, (#[.int .u8 78, .int .i64 (n : Int), .int .i64 mt, .int .i64 ma, v] : Array Value)[q]? = some u → At (w.alloc (.cells #[.int .u8 78, .int .i64 (n : Int), .int .i64 mt, .int .i64 ma, v] 59)) w.heap.size q u) := fun q u hu => At.new w _ _ hu
    have R0 := hid (H.out.fr FA.out (fun _ _ h => h))
    have GA := hid (G0.out.fr FA.out (fun h => h))
    have NK : Hid (¬ SL b w.heap.size) := fun c => by have := HL.out _ c; omega
    have hne : G ≠ w.heap.size := Nat.ne_of_lt hGl
    generalize w.alloc (.cells #[.int .u8 78, .int .i64 (n : Int), .int .i64 mt, .int .i64 ma, v] 59) = w0 at *
    obtain ⟨pK, hpK⟩ : ∃ pK, pK = w.heap.size := ⟨_, rfl⟩
    rw [← hpK] at KA NK hne ⊢
    have HPK := hid hpK
    clear hpK H G0
    have k0 := (KA.out 0 _ rfl).c
    have k1 := (KA.out 1 _ rfl).c
    have k2 := (KA.out 2 _ rfl).c
    have k3 := (KA.out 3 _ rfl).c
    have k4 := (KA.out 4 _ rfl).c
    have g := GA.out.c
    go_wp2_with fail
    refine (name_ok hn w0).mono ?_
    rintro e w1 ⟨rfl, f1⟩
    go_wp2_with fail
    go_ret2
    exact ⟨rfl, R0.out.fr f1 (fun _ _ h => h), (FA.out.mono (fun _ _ h => h.elim)).trans (f1.mono (fun _ _ h => h.elim))⟩
  · have hnI : ¬ mf < 4 := h4
    have HP : Hid (runP s ⟨78, ⟨mf, mt, ma⟩, ms⟩ = none ∧ runS s ⟨78, ⟨mf, mt, ma⟩, ms⟩ = s) := by
      simp [Hid, runP, runS, hnI]
    rw [HP.out.1, HP.out.2]
    clear HP
    simp only
    have H := hid h
    have HL := hid h.lt
    have hGl := g0.lt
    have G0 := hid g0
    have hvn : ((78 : UInt8).toNat : Int) = 78 := rfl
    rw [hvn]
    clear h g0 hvn
    go_enter Try.func34, Try.ntmps34
    go_upto_region 1 with fail
    have FA := hid ((Fr.refl (fun _ => False) w).alloc (.cells #[.int .u8 78, .int .i64 mf, .int .i64 mt, .int .i64 ma, v] 59))
    have KA : Hid (∀ q u, (#[.int .u8 78, .int .i64 mf, .int .i64 mt, .int .i64 ma, v] : Array Value)[q]? = some u → At (w.alloc (.cells #[.int .u8 78, .int .i64 mf, .int .i64 mt, .int .i64 ma, v] 59)) w.heap.size q u) := fun q u hu => At.new w _ _ hu
    have R0 := hid (H.out.fr FA.out (fun _ _ h => h))
    have GA := hid (G0.out.fr FA.out (fun h => h))
    have NK : Hid (¬ SL b w.heap.size) := fun c => by have := HL.out _ c; omega
    have hne : G ≠ w.heap.size := Nat.ne_of_lt hGl
    generalize w.alloc (.cells #[.int .u8 78, .int .i64 mf, .int .i64 mt, .int .i64 ma, v] 59) = w0 at *
    obtain ⟨pK, hpK⟩ : ∃ pK, pK = w.heap.size := ⟨_, rfl⟩
    rw [← hpK] at KA NK hne ⊢
    have HPK := hid hpK
    clear hpK H G0
    have k0 := (KA.out 0 _ rfl).c
    have k1 := (KA.out 1 _ rfl).c
    have k2 := (KA.out 2 _ rfl).c
    have k3 := (KA.out 3 _ rfl).c
    have k4 := (KA.out 4 _ rfl).c
    have g := GA.out.c
    go_wp2_with fail
    refine (name_out h0 (by omega) h9 w0).mono ?_
    rintro e w1 ⟨⟨t, x, older, ht, ho, rfl⟩, f1⟩
    go_wp2_with fail
    exact ⟨rfl, ⟨t, x, older, ht, ho, rfl⟩, R0.out.fr f1 (fun _ _ h => h), (FA.out.mono (fun _ _ h => h.elim)).trans (f1.mono (fun _ _ h => h.elim))⟩

theorem run_spl {w : World} {G : Nat} {b : LB} {s : Led} (h : LR w b s) (g0 : At w G 0 (.pointer (some ⟨b.D, 0, none⟩))) (hG : ¬ SL b G) (c : Cmd) (hv : c.verb = 83) (hz : ¬ (c.m.t = 0 ∧ acqE s c.m.f = 0)) (v : Value) :
    Calls Try.prog 34 #[.pointer (some ⟨G, 0, none⟩), .agg #[.int .u8 (c.verb.toNat : Int), .int .i64 c.m.f, .int .i64 c.m.t, .int .i64 c.m.a, v]] w fun e w' => RunPost (runP s c) e ∧ LR w' b (runS s c) ∧ Fr (SL b) w w' := by
  obtain ⟨verb, ⟨mf, mt, ma⟩, ms⟩ := c
  simp only at hv hz
  subst hv
  have HP : Hid (runP s ⟨83, ⟨mf, mt, ma⟩, ms⟩ = some (shA 83 (splN s mf mt) (splE s mf mt), splE s mf mt) ∧ runS s ⟨83, ⟨mf, mt, ma⟩, ms⟩ = splS s mf mt) := by
    simp [Hid, runP, runS, hz]
  rw [HP.out.1, HP.out.2]
  clear HP
  simp only
  have H := hid h
  have HL := hid h.lt
  have hGl := g0.lt
  have G0 := hid g0
  have hvn : ((83 : UInt8).toNat : Int) = 83 := rfl
  rw [hvn]
  clear h g0 hvn
  go_enter Try.func34, Try.ntmps34
  go_upto_region 1 with fail
  have FA := hid ((Fr.refl (fun _ => False) w).alloc (.cells #[.int .u8 83, .int .i64 mf, .int .i64 mt, .int .i64 ma, v] 59))
  have KA : Hid (∀ q u, (#[.int .u8 83, .int .i64 mf, .int .i64 mt, .int .i64 ma, v] : Array Value)[q]? = some u → At (w.alloc (.cells #[.int .u8 83, .int .i64 mf, .int .i64 mt, .int .i64 ma, v] 59)) w.heap.size q u) := fun q u hu => At.new w _ _ hu
  have R0 := hid (H.out.fr FA.out (fun _ _ h => h))
  have GA := hid (G0.out.fr FA.out (fun h => h))
  have NK : Hid (¬ SL b w.heap.size) := fun c => by have := HL.out _ c; omega
  have hne : G ≠ w.heap.size := Nat.ne_of_lt hGl
  generalize w.alloc (.cells #[.int .u8 83, .int .i64 mf, .int .i64 mt, .int .i64 ma, v] 59) = w0 at *
  obtain ⟨pK, hpK⟩ : ∃ pK, pK = w.heap.size := ⟨_, rfl⟩
  rw [← hpK] at KA NK hne ⊢
  have HPK := hid hpK
  clear hpK H G0
  have k0 := (KA.out 0 _ rfl).c
  have k1 := (KA.out 1 _ rfl).c
  have k2 := (KA.out 2 _ rfl).c
  have k3 := (KA.out 3 _ rfl).c
  have k4 := (KA.out 4 _ rfl).c
  have g := GA.out.c
  have HZ := hid hz
  clear hz
  go_upto_region 10 with fail
  go_region_held3 (fun W => W.cell? ⟨G, 0, none⟩ = some (.pointer (some ⟨b.D, 0, none⟩)) ∧ W.cell? ⟨pK, 1, none⟩ = some (.int .i64 mf) ∧ W.cell? ⟨pK, 2, none⟩ = some (.int .i64 mt)) (go_keep) (first | (go_at_call 60; refine (split_any (R0.out.fr ((Fr.refl (fun _ => False) w0).drew) (fun _ _ h => h)) mf mt HZ.out).mono ?_; rintro e w1 ⟨rfl, r1, f1⟩; have zg : w1.cell? ⟨G, 0, none⟩ = some (.pointer (some ⟨b.D, 0, none⟩)) := cellFr f1 hG (by simp [*]); have z1 : w1.cell? ⟨pK, 1, none⟩ = some (.int .i64 mf) := cellFr f1 NK.out (by simp [*]); have z2 : w1.cell? ⟨pK, 2, none⟩ = some (.int .i64 mt) := cellFr f1 NK.out (by simp [*])))
  go_upto_region 15 with fail
  have R1 := hid r1
  have F1 := hid ((Fr.refl (SL b) w0).drew.trans f1)
  clear r1 f1
  have K1 := hid (fun q u hu => (KA.out q u hu).fr F1.out NK.out)
  have hsm := spl_small R0.out.bl mf mt
  clear k0 k1 k2 k3 k4 g KA
  have k0 := (K1.out 0 _ rfl).c
  go_wp2_with fail
  have hsh := shape_any (83 : UInt8) (n := splN s mf mt) (e := splE s mf mt) (by omega) (by omega) w1
  rw [show (((83 : UInt8).toNat : Int)) = 83 from rfl] at hsh
  refine hsh.mono ?_
  rintro e w2 ⟨rfl, f2⟩
  go_wp2_with fail
  go_ret2
  exact ⟨rfl, R1.out.fr f2 (fun _ _ h => h), ((FA.out.mono (fun _ _ h => h.elim)).trans F1.out).trans (f2.mono (fun _ _ h => h.elim))⟩

theorem run_spz {w : World} {G : Nat} {b : LB} {s : Led} (h : LR w b s) (g0 : At w G 0 (.pointer (some ⟨b.D, 0, none⟩))) (hG : ¬ SL b G) (c : Cmd) (hv : c.verb = 83) (hz : c.m.t = 0 ∧ acqE s c.m.f = 0) (v : Value) :
    Calls Try.prog 34 #[.pointer (some ⟨G, 0, none⟩), .agg #[.int .u8 (c.verb.toNat : Int), .int .i64 c.m.f, .int .i64 c.m.t, .int .i64 c.m.a, v]] w fun e w' => RunPost (runP s c) e ∧ LR w' b (runS s c) ∧ Fr (SL b) w w' := by
  obtain ⟨verb, ⟨mf, mt, ma⟩, ms⟩ := c
  simp only at hv hz
  subst hv
  obtain ⟨rfl, hz⟩ := hz
  have HP : Hid (runP s ⟨83, ⟨mf, 0, ma⟩, ms⟩ = none ∧ runS s ⟨83, ⟨mf, 0, ma⟩, ms⟩ = oneS s mf) := by
    simp [Hid, runP, runS, hz]
  rw [HP.out.1, HP.out.2]
  clear HP
  simp only
  have H := hid h
  have HL := hid h.lt
  have hGl := g0.lt
  have G0 := hid g0
  have hvn : ((83 : UInt8).toNat : Int) = 83 := rfl
  rw [hvn]
  clear h g0 hvn
  go_enter Try.func34, Try.ntmps34
  go_upto_region 1 with fail
  have FA := hid ((Fr.refl (fun _ => False) w).alloc (.cells #[.int .u8 83, .int .i64 mf, .int .i64 0, .int .i64 ma, v] 59))
  have KA : Hid (∀ q u, (#[.int .u8 83, .int .i64 mf, .int .i64 0, .int .i64 ma, v] : Array Value)[q]? = some u → At (w.alloc (.cells #[.int .u8 83, .int .i64 mf, .int .i64 0, .int .i64 ma, v] 59)) w.heap.size q u) := fun q u hu => At.new w _ _ hu
  have R0 := hid (H.out.fr FA.out (fun _ _ h => h))
  have GA := hid (G0.out.fr FA.out (fun h => h))
  have NK : Hid (¬ SL b w.heap.size) := fun c => by have := HL.out _ c; omega
  have hne : G ≠ w.heap.size := Nat.ne_of_lt hGl
  generalize w.alloc (.cells #[.int .u8 83, .int .i64 mf, .int .i64 0, .int .i64 ma, v] 59) = w0 at *
  obtain ⟨pK, hpK⟩ : ∃ pK, pK = w.heap.size := ⟨_, rfl⟩
  rw [← hpK] at KA NK hne ⊢
  have HPK := hid hpK
  clear hpK H G0
  have k0 := (KA.out 0 _ rfl).c
  have k1 := (KA.out 1 _ rfl).c
  have k2 := (KA.out 2 _ rfl).c
  have k3 := (KA.out 3 _ rfl).c
  have k4 := (KA.out 4 _ rfl).c
  have g := GA.out.c
  have HZ := hid hz
  clear hz
  go_upto_region 10 with fail
  refine wp_region_held_drew (S := (fun W => W.cell? ⟨G, 0, none⟩ = some (.pointer (some ⟨b.D, 0, none⟩)) ∧ W.cell? ⟨pK, 1, none⟩ = some (.int .i64 mf) ∧ W.cell? ⟨pK, 2, none⟩ = some (.int .i64 0))) (by kernel_rfl) ?_ (fun hHeld => ?_)
  · (try dsimp only)
    go_keep
  refine wpAnyH_take (i := 0) (v := ?_) rfl (by kernel_rfl) (by kernel_rfl) (by kernel_rfl) (fun _ _ _ h => h) (Or.inl ⟨by rfl, ?_⟩) (by assumption) ?_
  rotate_left
  · intro W hSw
    (try dsimp only at hSw)
    go_simp
    (try with_reducible rfl)
  try simp only [Act.put, List.setIfInBounds_toArray, List.set_cons_zero, List.set_cons_succ]
  refine wpAnyH_take (i := 1) (v := ?_) rfl (by kernel_rfl) (by kernel_rfl) (by kernel_rfl) (fun _ _ _ h => h) (Or.inl ⟨by rfl, ?_⟩) (by assumption) ?_
  rotate_left
  · intro W hSw
    (try dsimp only at hSw)
    go_simp
    (try with_reducible rfl)
  try simp only [Act.put, List.setIfInBounds_toArray, List.set_cons_zero, List.set_cons_succ]
  refine wpAnyH_take (i := 2) (v := ?_) rfl (by kernel_rfl) (by kernel_rfl) (by kernel_rfl) (fun _ _ _ h => h) (Or.inl ⟨by rfl, ?_⟩) (by assumption) ?_
  rotate_left
  · intro W hSw
    (try dsimp only at hSw)
    go_simp
    (try with_reducible rfl)
  try simp only [Act.put, List.setIfInBounds_toArray, List.set_cons_zero, List.set_cons_succ]
  refine wpAnyH_take (i := 3) (v := ?_) rfl (by kernel_rfl) (by kernel_rfl) (by kernel_rfl) (fun _ _ _ h => h) (Or.inl ⟨by rfl, ?_⟩) (by assumption) ?_
  rotate_left
  · intro W hSw
    (try dsimp only at hSw)
    go_simp
    (try with_reducible rfl)
  try simp only [Act.put, List.setIfInBounds_toArray, List.set_cons_zero, List.set_cons_succ]
  refine wpAnyH_take (i := 4) (v := ?_) rfl (by kernel_rfl) (by kernel_rfl) (by kernel_rfl) (fun _ _ _ h => h) (Or.inl ⟨by rfl, ?_⟩) (by assumption) ?_
  rotate_left
  · intro W hSw
    (try dsimp only at hSw)
    go_simp
    (try with_reducible rfl)
  try simp only [Act.put, List.setIfInBounds_toArray, List.set_cons_zero, List.set_cons_succ]
  refine wpAnyH_take (i := 5) (v := ?_) rfl (by kernel_rfl) (by kernel_rfl) (by kernel_rfl) (fun _ _ _ h => h) (Or.inl ⟨by rfl, ?_⟩) (by assumption) ?_
  rotate_left
  · intro W hSw
    (try dsimp only at hSw)
    go_simp
    (try with_reducible rfl)
  try simp only [Act.put, List.setIfInBounds_toArray, List.set_cons_zero, List.set_cons_succ]
  refine wpAnyH_take (i := 6) (v := ?_) rfl (by kernel_rfl) (by kernel_rfl) (by kernel_rfl) (fun _ _ _ h => h) (Or.inl ⟨by rfl, ?_⟩) (by assumption) ?_
  rotate_left
  · intro W hSw
    (try dsimp only at hSw)
    go_simp
    (try with_reducible rfl)
  try simp only [Act.put, List.setIfInBounds_toArray, List.set_cons_zero, List.set_cons_succ]
  refine wpAnyH_take (i := 7) (v := ?_) rfl (by kernel_rfl) (by kernel_rfl) (by kernel_rfl) (fun _ _ _ h => h) (Or.inl ⟨by rfl, ?_⟩) (by assumption) ?_
  rotate_left
  · intro W hSw
    (try dsimp only at hSw)
    go_simp
    (try with_reducible rfl)
  try simp only [Act.put, List.setIfInBounds_toArray, List.set_cons_zero, List.set_cons_succ]
  refine wpAnyH_take (i := 8) (v := ?_) rfl (by kernel_rfl) (by kernel_rfl) (by kernel_rfl) (fun _ _ _ h => h) (Or.inl ⟨by rfl, ?_⟩) (by assumption) ?_
  rotate_left
  · intro W hSw
    (try dsimp only at hSw)
    go_simp
    (try with_reducible rfl)
  try simp only [Act.put, List.setIfInBounds_toArray, List.set_cons_zero, List.set_cons_succ]
  refine wpAnyH_take (i := 9) (v := ?_) rfl (by kernel_rfl) (by kernel_rfl) (by kernel_rfl) (fun _ _ _ h => h) (Or.inl ⟨by rfl, ?_⟩) (by assumption) ?_
  rotate_left
  · intro W hSw
    (try dsimp only at hSw)
    go_simp
    (try with_reducible rfl)
  try simp only [Act.put, List.setIfInBounds_toArray, List.set_cons_zero, List.set_cons_succ]
  refine wpAnyH_ready (rs := [10]) (by kernel_rfl) (by simp) ?_
  refine AllReadyH.cons rfl (fun K hK => ?_) AllReadyH.nil
  go_simp
  refine (split_zero (R0.out.fr ((Fr.refl (fun _ => False) w0).drew) (fun _ _ h => h)) HZ.out).mono ?_
  rintro e w1 ⟨rfl, r1, f1⟩
  go_wp2_with fail
  exact ⟨rfl, ⟨10, _, _, .inr rfl, rfl, rfl⟩, r1, (FA.out.mono (fun _ _ h => h.elim)).trans ((Fr.refl (SL b) w0).drew.trans f1)⟩

theorem run_tr {w : World} {G : Nat} {b : LB} {s : Led} (h : LR w b s) (g0 : At w G 0 (.pointer (some ⟨b.D, 0, none⟩))) (hG : ¬ SL b G) (c : Cmd) (hv : c.verb = 84) (v : Value) :
    Calls Try.prog 34 #[.pointer (some ⟨G, 0, none⟩), .agg #[.int .u8 (c.verb.toNat : Int), .int .i64 c.m.f, .int .i64 c.m.t, .int .i64 c.m.a, v]] w fun e w' => RunPost (runP s c) e ∧ LR w' b (runS s c) ∧ Fr (SL b) w w' := by
  obtain ⟨verb, ⟨mf, mt, ma⟩, ms⟩ := c
  simp only at hv
  subst hv
  have HP : Hid (runP s ⟨84, ⟨mf, mt, ma⟩, ms⟩ = some (shA 84 (trN s mf mt ma) (trE s mf mt ma), trE s mf mt ma) ∧ runS s ⟨84, ⟨mf, mt, ma⟩, ms⟩ = trS s mf mt ma) := by
    simp [Hid, runP, runS]
  rw [HP.out.1, HP.out.2]
  clear HP
  simp only
  have H := hid h
  have HL := hid h.lt
  have hGl := g0.lt
  have G0 := hid g0
  have hvn : ((84 : UInt8).toNat : Int) = 84 := rfl
  rw [hvn]
  clear h g0 hvn
  go_enter Try.func34, Try.ntmps34
  go_upto_region 1 with fail
  have FA := hid ((Fr.refl (fun _ => False) w).alloc (.cells #[.int .u8 84, .int .i64 mf, .int .i64 mt, .int .i64 ma, v] 59))
  have KA : Hid (∀ q u, (#[.int .u8 84, .int .i64 mf, .int .i64 mt, .int .i64 ma, v] : Array Value)[q]? = some u → At (w.alloc (.cells #[.int .u8 84, .int .i64 mf, .int .i64 mt, .int .i64 ma, v] 59)) w.heap.size q u) := fun q u hu => At.new w _ _ hu
  have R0 := hid (H.out.fr FA.out (fun _ _ h => h))
  have GA := hid (G0.out.fr FA.out (fun h => h))
  have NK : Hid (¬ SL b w.heap.size) := fun c => by have := HL.out _ c; omega
  have hne : G ≠ w.heap.size := Nat.ne_of_lt hGl
  generalize w.alloc (.cells #[.int .u8 84, .int .i64 mf, .int .i64 mt, .int .i64 ma, v] 59) = w0 at *
  obtain ⟨pK, hpK⟩ : ∃ pK, pK = w.heap.size := ⟨_, rfl⟩
  rw [← hpK] at KA NK hne ⊢
  have HPK := hid hpK
  clear hpK H G0
  have k0 := (KA.out 0 _ rfl).c
  have k1 := (KA.out 1 _ rfl).c
  have k2 := (KA.out 2 _ rfl).c
  have k3 := (KA.out 3 _ rfl).c
  have k4 := (KA.out 4 _ rfl).c
  have g := GA.out.c
  go_upto_region 12 with fail
  go_region_held3 (fun W => W.cell? ⟨G, 0, none⟩ = some (.pointer (some ⟨b.D, 0, none⟩)) ∧ W.cell? ⟨pK, 1, none⟩ = some (.int .i64 mf) ∧ W.cell? ⟨pK, 2, none⟩ = some (.int .i64 mt) ∧ W.cell? ⟨pK, 3, none⟩ = some (.int .i64 ma)) (go_keep) (first | (go_at_call 61; refine (transfer_any (R0.out.fr ((Fr.refl (fun _ => False) w0).drew) (fun _ _ h => h)) mf mt ma).mono ?_; rintro e w1 ⟨rfl, r1, f1⟩; have zg : w1.cell? ⟨G, 0, none⟩ = some (.pointer (some ⟨b.D, 0, none⟩)) := cellFr f1 hG (by simp [*]); have z1 : w1.cell? ⟨pK, 1, none⟩ = some (.int .i64 mf) := cellFr f1 NK.out (by simp [*]); have z2 : w1.cell? ⟨pK, 2, none⟩ = some (.int .i64 mt) := cellFr f1 NK.out (by simp [*]); have z3 : w1.cell? ⟨pK, 3, none⟩ = some (.int .i64 ma) := cellFr f1 NK.out (by simp [*])))
  go_upto_region 15 with fail
  have R1 := hid r1
  have F1 := hid ((Fr.refl (SL b) w0).drew.trans f1)
  clear r1 f1
  have K1 := hid (fun q u hu => (KA.out q u hu).fr F1.out NK.out)
  have hsm := tr_small R0.out.bl mf mt ma
  clear k0 k1 k2 k3 k4 g KA
  have k0 := (K1.out 0 _ rfl).c
  go_wp2_with fail
  have hsh := shape_any (84 : UInt8) (n := trN s mf mt ma) (e := trE s mf mt ma) (by omega) (by omega) w1
  rw [show (((84 : UInt8).toNat : Int)) = 84 from rfl] at hsh
  refine hsh.mono ?_
  rintro e w2 ⟨rfl, f2⟩
  go_wp2_with fail
  go_ret2
  exact ⟨rfl, R1.out.fr f2 (fun _ _ h => h), ((FA.out.mono (fun _ _ h => h.elim)).trans F1.out).trans (f2.mono (fun _ _ h => h.elim))⟩

theorem run_bat {w : World} {G : Nat} {b : LB} {s : Led} (h : LR w b s) (g0 : At w G 0 (.pointer (some ⟨b.D, 0, none⟩))) (hG : ¬ SL b G) (c : Cmd) {v : Value} (hv : c.verb = 88) {base : Nat} (ow : OwnM w base v c.ms) (hb : ∀ i, SL b i → i < base) :
    Calls Try.prog 34 #[.pointer (some ⟨G, 0, none⟩), .agg #[.int .u8 (c.verb.toNat : Int), .int .i64 c.m.f, .int .i64 c.m.t, .int .i64 c.m.a, v]] w fun e w' => RunPost (runP s c) e ∧ LR w' b (runS s c) ∧ Fr (SL b) w w' := by
  obtain ⟨verb, ⟨mf, mt, ma⟩, ms⟩ := c
  simp only at hv ow
  subst hv
  obtain ⟨xa, cap, rfl, mv, hx⟩ := ow.mvs
  have MV := hid mv
  have HX : Hid (∀ B off, xa = some ⟨B, off, none⟩ → ¬ SL b B) := fun B off e c => by have := hx B off e; have := hb _ c; omega
  clear ow mv hx hb
  have HP : Hid (runP s ⟨88, ⟨mf, mt, ma⟩, ms⟩ = some (shA 88 (batN s ms) (batE s ms), batE s ms) ∧ runS s ⟨88, ⟨mf, mt, ma⟩, ms⟩ = batS s ms) := by
    simp [Hid, runP, runS]
  rw [HP.out.1, HP.out.2]
  clear HP
  simp only
  have H := hid h
  have HL := hid h.lt
  have hGl := g0.lt
  have G0 := hid g0
  have hvn : ((88 : UInt8).toNat : Int) = 88 := rfl
  rw [hvn]
  clear h g0 hvn
  go_enter Try.func34, Try.ntmps34
  go_upto_region 1 with fail
  have FA := hid ((Fr.refl (fun _ => False) w).alloc (.cells #[.int .u8 88, .int .i64 mf, .int .i64 mt, .int .i64 ma, .slice xa ms.length cap] 59))
  have KA : Hid (∀ q u, (#[.int .u8 88, .int .i64 mf, .int .i64 mt, .int .i64 ma, .slice xa ms.length cap] : Array Value)[q]? = some u → At (w.alloc (.cells #[.int .u8 88, .int .i64 mf, .int .i64 mt, .int .i64 ma, .slice xa ms.length cap] 59)) w.heap.size q u) := fun q u hu => At.new w _ _ hu
  have R0 := hid (H.out.fr FA.out (fun _ _ h => h))
  have GA := hid (G0.out.fr FA.out (fun h => h))
  have NK : Hid (¬ SL b w.heap.size) := fun c => by have := HL.out _ c; omega
  have hne : G ≠ w.heap.size := Nat.ne_of_lt hGl
  generalize w.alloc (.cells #[.int .u8 88, .int .i64 mf, .int .i64 mt, .int .i64 ma, .slice xa ms.length cap] 59) = w0 at *
  obtain ⟨pK, hpK⟩ : ∃ pK, pK = w.heap.size := ⟨_, rfl⟩
  rw [← hpK] at KA NK hne ⊢
  have HPK := hid hpK
  clear hpK H G0
  have k0 := (KA.out 0 _ rfl).c
  have k1 := (KA.out 1 _ rfl).c
  have k2 := (KA.out 2 _ rfl).c
  have k3 := (KA.out 3 _ rfl).c
  have k4 := (KA.out 4 _ rfl).c
  have g := GA.out.c
  have MV1 := hid (MV.out.fr ((FA.out).drew))
  go_upto_region 14 with fail
  go_region_held3 (fun W => W.cell? ⟨G, 0, none⟩ = some (.pointer (some ⟨b.D, 0, none⟩)) ∧ W.cell? ⟨pK, 4, none⟩ = some (.slice xa ms.length cap)) (go_keep) (first | (go_at_call 62; refine (batch_any (R0.out.fr ((Fr.refl (fun _ => False) w0).drew) (fun _ _ h => h)) MV1.out HX.out cap).mono ?_; rintro e w1 ⟨rfl, r1, f1⟩; have zg : w1.cell? ⟨G, 0, none⟩ = some (.pointer (some ⟨b.D, 0, none⟩)) := cellFr f1 hG (by simp [*]); have z4 : w1.cell? ⟨pK, 4, none⟩ = some (.slice xa ms.length cap) := cellFr f1 NK.out (by simp [*])))
  go_upto_region 15 with fail
  have R1 := hid r1
  have F1 := hid ((Fr.refl (SL b) w0).drew.trans f1)
  clear r1 f1
  have K1 := hid (fun q u hu => (KA.out q u hu).fr F1.out NK.out)
  have hsm := bat_small s ms
  clear k0 k1 k2 k3 k4 g KA
  have k0 := (K1.out 0 _ rfl).c
  go_wp2_with fail
  have hsh := shape_any (88 : UInt8) (n := batN s ms) (e := batE s ms) (by omega) (by omega) w1
  rw [show (((88 : UInt8).toNat : Int)) = 88 from rfl] at hsh
  refine hsh.mono ?_
  rintro e w2 ⟨rfl, f2⟩
  go_wp2_with fail
  go_ret2
  exact ⟨rfl, R1.out.fr f2 (fun _ _ h => h), ((FA.out.mono (fun _ _ h => h.elim)).trans F1.out).trans (f2.mono (fun _ _ h => h.elim))⟩

end Go.Proofs.Qxb6500452a
