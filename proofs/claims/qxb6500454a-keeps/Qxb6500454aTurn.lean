import Derived.Test.Qxb6500454aDesk
namespace Go.Proofs.Qxb6500454a
open Go Go.RowKit
set_option maxRecDepth 100000
set_option maxHeartbeats 1600000
set_option linter.unusedSimpArgs false
set_option linter.unusedVariables false

theorem hdl_ne_true {s : L.St} {k : Nat} (h : s.op k = true) : (s.hdl k != -1) = true := by rw [L.hdl_open h]; simp; omega
theorem hdl_ne_false {s : L.St} {k : Nat} (h : s.op k = false) : (s.hdl k != -1) = false := by rw [L.hdl_free h]; simp

theorem due_any {w : World} {bD : Nat} {s : L.St} (h : DS w bD s) (a b : Int) :
    Calls Try.prog 38 #[.pointer (some ⟨bD, 0, none⟩), .int .i64 a, .int .i64 b] w fun e w' => e = .returned (.int .i64 (L.pair s a b).2.2.1) ∧ w' = w := by
  by_cases a0 : a < 0
  · have HF : Hid (L.pair s a b = (0, 0, 2, s)) := by unfold Hid L.pair; rw [if_neg (by omega)]
    go_enter Try.func38, Try.ntmps38
    go_wp2_with fail
    go_ret
    rw [HF.out]
    exact ⟨rfl, rfl⟩
  have a0' : 0 ≤ a := by omega
  have a0d : decide (a < 0) = false := by simpa using a0'
  by_cases a4 : 4 ≤ a
  · have HF : Hid (L.pair s a b = (0, 0, 2, s)) := by unfold Hid L.pair; rw [if_neg (by omega)]
    clear a0
    go_enter Try.func38, Try.ntmps38
    go_wp2_with fail
    go_ret
    rw [HF.out]
    exact ⟨rfl, rfl⟩
  have a4' : a < 4 := by omega
  have a4d : decide (4 ≤ a) = false := by simpa using a4'
  by_cases b0 : b < 0
  · have HF : Hid (L.pair s a b = (0, 0, 2, s)) := by unfold Hid L.pair; rw [if_pos (by omega), if_neg (by omega)]
    clear a0 a4
    go_enter Try.func38, Try.ntmps38
    go_wp2_with fail
    go_ret
    rw [HF.out]
    exact ⟨rfl, rfl⟩
  have b0' : 0 ≤ b := by omega
  have b0d : decide (b < 0) = false := by simpa using b0'
  by_cases b4 : 4 ≤ b
  · have HF : Hid (L.pair s a b = (0, 0, 2, s)) := by unfold Hid L.pair; rw [if_pos (by omega), if_neg (by omega)]
    clear a0 a4 b0
    go_enter Try.func38, Try.ntmps38
    go_wp2_with fail
    go_ret
    rw [HF.out]
    exact ⟨rfl, rfl⟩
  have b4' : b < 4 := by omega
  have b4d : decide (4 ≤ b) = false := by simpa using b4'
  obtain ⟨x, rfl⟩ := Int.eq_ofNat_of_zero_le a0'
  obtain ⟨y, rfl⟩ := Int.eq_ofNat_of_zero_le b0'
  have hx : x < 4 := by omega
  have hy : y < 4 := by omega
  by_cases hab : x = y
  · subst hab
    have HF : Hid (L.pair s (x : Int) (x : Int) = (0, 0, 3, s)) := by unfold Hid L.pair; rw [if_pos (by omega), if_pos (by omega), if_pos rfl]
    clear a0 a4 b0 b4
    go_enter Try.func38, Try.ntmps38
    go_wp2_with fail
    go_ret
    rw [HF.out]
    exact ⟨rfl, rfl⟩
  have hne : ((x : Int) == (y : Int)) = false := beq_eq_false_iff_ne.2 (by omega)
  have cx := (h.1.m x hx).c
  have cy := (h.1.m y hy).c
  have base : ∀ r, (s.op x = true ∨ s.op y = true → r = (4 : Int)) → (s.op x = false → s.op y = false → r = 0) → (L.pair s (x : Int) (y : Int)).2.2.1 = r := by
    intro r h1 h2
    unfold L.pair
    rw [if_pos (by omega), if_pos (by omega), if_neg (by omega)]
    have hlo : L.lo (x : Int) (y : Int) = (x : Int) ∧ L.hi (x : Int) (y : Int) = (y : Int) ∨ L.lo (x : Int) (y : Int) = (y : Int) ∧ L.hi (x : Int) (y : Int) = (x : Int) := by
      unfold L.lo L.hi; split <;> simp
    rcases hlo with ⟨e1, e2⟩ | ⟨e1, e2⟩ <;> rw [e1, e2] <;> simp only [Int.toNat_natCast] <;> cases hx' : s.op x <;> cases hy' : s.op y <;> simp [hx', hy'] at h1 h2 ⊢ <;> first | exact h1.symm | exact h2.symm
  clear a0 a4 b0 b4 hab
  cases hx' : s.op x
  · have hxb := hdl_ne_false hx'
    cases hy' : s.op y
    · have hyb := hdl_ne_false hy'
      have HF := hid (base 0 (by simp [hx', hy']) (by simp))
      clear base hx' hy' h
      go_enter Try.func38, Try.ntmps38
      go_wp2_with fail
      go_ret
      rw [HF.out]
      exact ⟨rfl, rfl⟩
    · have hyb := hdl_ne_true hy'
      have HF := hid (base 4 (by simp) (by simp [hy']))
      clear base hx' hy' h
      go_enter Try.func38, Try.ntmps38
      go_wp2_with fail
      go_ret
      rw [HF.out]
      exact ⟨rfl, rfl⟩
  · have hxb := hdl_ne_true hx'
    have HF := hid (base 4 (by simp) (by simp [hx']))
    clear base hx' h
    go_enter Try.func38, Try.ntmps38
    go_wp2_with fail
    go_ret
    rw [HF.out]
    exact ⟨rfl, rfl⟩

/-- TurnPair's three boxes. -/
theorem box3 {w w1 : World} {S : Nat → Prop} (hS : ∀ i, w.heap.size ≤ i → ¬ S i) {o : Stp} {e n m : Int} {t : List UInt8}
    (hf : Fr S ((w.alloc (.cells #[.int .i64 o.kind, .int .i64 o.a, .int .i64 o.b, .int .i64 o.c, .string o.s, .string o.t] 43)).alloc (.cells #[.int .i64 e, .int .i64 n, .int .i64 m, .string (L.bs t)] 45)) w1) :
    StpAt w1 w.heap.size 0 o ∧ w1.cell? ⟨w.heap.size + 1, 0, none⟩ = some (.int .i64 e) ∧ w1.cell? ⟨w.heap.size + 1, 1, none⟩ = some (.int .i64 n) ∧ w1.cell? ⟨w.heap.size + 1, 2, none⟩ = some (.int .i64 m) ∧ w1.cell? ⟨w.heap.size + 1, 3, none⟩ = some (.string (L.bs t)) ∧ Fr S w w1 := by
  have h1 := (StpAt.new w o).fr ((Fr.refl (fun _ => False) _).alloc (.cells #[.int .i64 e, .int .i64 n, .int .i64 m, .string (L.bs t)] 45)) (by simp)
  have e2 : ∀ {q v}, (#[.int .i64 e, .int .i64 n, .int .i64 m, .string (L.bs t)] : Array Value)[q]? = some v → w1.cell? ⟨w.heap.size + 1, q, none⟩ = some v := fun {q v} h => by
    have := At.new (w.alloc (.cells #[.int .i64 o.kind, .int .i64 o.a, .int .i64 o.b, .int .i64 o.c, .string o.s, .string o.t] 43)) #[.int .i64 e, .int .i64 n, .int .i64 m, .string (L.bs t)] 45 h
    simp only [World.size_alloc] at this
    exact (this.fr hf (hS _ (by omega))).c
  exact ⟨h1.frS hf (hS _ (Nat.le_refl _)), e2 rfl, e2 rfl, e2 rfl, e2 rfl, ((Fr.refl _ _).alloc _).alloc _ |>.trans hf⟩

theorem turnPair_err {w : World} {bD : Nat} {s : L.St} (h : DS w bD s) (kind a b c : Int) (os ot : ByteArray) (er : Int) (he : L.pair s a b = (0, 0, er, s)) (h4 : er = 2 ∨ er = 3) :
    Calls Try.prog 33 #[.pointer (some ⟨bD, 0, none⟩), .agg #[.int .i64 kind, .int .i64 a, .int .i64 b, .int .i64 c, .string os, .string ot], .agg #[.int .i64 er, .int .i64 0, .int .i64 0, .string (L.bs [])]] w fun e w' => e = .returned (.bool true) ∧ DS w' bD s ∧ Fr (S1 bD) w w' := by
  have hA := due_any (w := (w.alloc (.cells #[.int .i64 kind, .int .i64 a, .int .i64 b, .int .i64 c, .string os, .string ot] 43)).alloc (.cells #[.int .i64 er, .int .i64 0, .int .i64 0, .string (L.bs [])] 45)) ⟨(h.1.alloc _).alloc _, h.2⟩ a b
  rw [he] at hA
  have HA := hid hA
  have H := hid h
  clear hA he h
  have hb0 : (er == 0) = false := by rcases h4 with e | e <;> subst e <;> rfl
  have hb4 : (er == 4) = false := by rcases h4 with e | e <;> subst e <;> rfl
  clear h4
  by_cases hlt : b < a
  all_goals
    go_enter Try.func33, Try.ntmps33
    go_wp2_with fail
    refine HA.out.mono ?_
    rintro e w1 ⟨rfl, rfl⟩
    go_wp2_with fail
    go_quiet (fail)
    go_wp2_with fail
    go_ret
    exact ⟨rfl, ⟨((H.out.1.alloc _).alloc _).drewN _, H.out.2⟩, (((Fr.refl _ _).alloc _).alloc _).drewN _⟩

/-- A take with no handle and a give: what a pair that failed half-way leaves. -/
theorem take_give_ds {w' : World} {bD : Nat} {s : L.St} (hs : s.Ok) {x : Nat} (hx : x < 4) (hop : s.op x = false)
    (hd : DT w' bD (updI (updI s.hdl x 0) x (-1)) (L.updN s.gen x ((s.gen x + 1) % 4)) ((s.cnt : Int) + 1 - 1) (L.noteL (L.noteL s.tr 65 x) 82 x)) : DS w' bD (L.give (L.take s x) x) := by
  refine ⟨?_, L.give_ok (L.take_ok hs x) x⟩
  have e1 : updI (updI s.hdl x 0) x (-1) = (L.give (L.take s x) x).hdl := by
    funext j
    by_cases e : j = x
    · subst e; rw [L.hdl_give_same]; simp [updI]
    · rw [L.hdl_give_other _ e, L.hdl_take_other _ e]; simp [updI, e]
  have e2 : ((s.cnt : Int) + 1 - 1) = ((L.give (L.take s x) x).cnt : Int) := by
    have h1 := L.cnt_take hx hop
    have h2 := L.cnt_give (s := L.take s x) hx (by simp [L.take, L.updB])
    omega
  rw [e1, e2] at hd
  exact hd

theorem take_ds {w' : World} {bD : Nat} {s : L.St} (hs : s.Ok) {x : Nat} (hx : x < 4) (hop : s.op x = false)
    (hd : DT w' bD (updI s.hdl x ((x : Int) + 4 * (s.gen x : Int))) s.gen ((s.cnt : Int) + 1) (L.noteL s.tr 65 x)) : DS w' bD (L.take s x) := by
  refine ⟨?_, L.take_ok hs x⟩
  have e1 : updI s.hdl x ((x : Int) + 4 * (s.gen x : Int)) = (L.take s x).hdl := by
    funext j
    by_cases e : j = x
    · subst e; rw [L.hdl_take_same]; simp [updI]
    · rw [L.hdl_take_other _ e]; simp [updI, e]
  have e2 : ((s.cnt : Int) + 1) = ((L.take s x).cnt : Int) := by
    have h1 := L.cnt_take hx hop
    omega
  rw [e1, e2] at hd
  exact hd

theorem give_ds {w' : World} {bD : Nat} {s : L.St} (hs : s.Ok) {x : Nat} (hx : x < 4) (hop : s.op x = true)
    (hd : DT w' bD (updI s.hdl x (-1)) (L.updN s.gen x ((s.gen x + 1) % 4)) ((s.cnt : Int) - 1) (L.noteL s.tr 82 x)) : DS w' bD (L.give s x) := by
  refine ⟨?_, L.give_ok hs x⟩
  have e1 : updI s.hdl x (-1) = (L.give s x).hdl := by
    funext j
    by_cases e : j = x
    · subst e; rw [L.hdl_give_same]; simp [updI]
    · rw [L.hdl_give_other _ e]; simp [updI, e]
  have e2 : ((s.cnt : Int) - 1) = ((L.give s x).cnt : Int) := by
    have h1 := L.cnt_give hx hop
    omega
  rw [e1, e2] at hd
  exact hd

theorem takeB_true (gen : Nat → Nat) (x : Nat) : takeB gen x ((x : Int) + 4 * (gen x : Int)) = true := by simp [takeB]

/-- Take with the right handle. -/
theorem dtake_ok {w : World} {bD : Nat} {s : L.St} (h : DS w bD s) (x : Nat) (hx : x < 4) (hop : s.op x = false) :
    Calls Try.prog 31 #[.pointer (some ⟨bD, 0, none⟩), .int .i64 x, .int .i64 ((x : Int) + 4 * (s.gen x : Int))] w fun e w' => e = .returned (.bool true) ∧ DS w' bD (L.take s x) ∧ Fr (S1 bD) w w' := by
  have hc := L.cnt_le s
  refine (dtake_any h.1 h.2.even (by omega) x hx _).mono ?_
  rintro e w1 ⟨rfl, hd, hf⟩
  exact ⟨by rw [takeB_true], take_ds h.2 hx hop hd, hf⟩

theorem dgive_ok {w : World} {bD : Nat} {s : L.St} (h : DS w bD s) (x : Nat) (hx : x < 4) (hop : s.op x = true) :
    Calls Try.prog 32 #[.pointer (some ⟨bD, 0, none⟩), .int .i64 x] w fun e w' => e = .returned (.tuple #[]) ∧ DS w' bD (L.give s x) ∧ Fr (S1 bD) w w' := by
  have hc := L.cnt_le s
  refine (dgive_any h.1 h.2.even (by omega) x hx).mono ?_
  rintro e w1 ⟨rfl, hd, hf⟩
  exact ⟨rfl, give_ds h.2 hx hop hd, hf⟩

theorem turnPair_lo_lt {w : World} {bD : Nat} {s : L.St} (h : DS w bD s) (kind c : Int) (os ot : ByteArray) (x y : Nat) (hx : x < 4) (hy : y < 4) (he : L.pair s (x : Int) (y : Int) = (0, 0, 4, s)) (hlt : (x : Int) < (y : Int)) (hop : s.op x = true) :
    Calls Try.prog 33 #[.pointer (some ⟨bD, 0, none⟩), .agg #[.int .i64 kind, .int .i64 (x : Int), .int .i64 (y : Int), .int .i64 c, .string os, .string ot], .agg #[.int .i64 4, .int .i64 0, .int .i64 0, .string (L.bs [])]] w fun e w' => e = .returned (.bool true) ∧ DS w' bD s ∧ Fr (S1 bD) w w' := by
  have hx0 : (0 : Int) ≤ (x : Int) := by omega
  have hy0 : (0 : Int) ≤ (y : Int) := by omega
  have hx1 : (x : Int) < 4 := by omega
  have hy1 : (y : Int) < 4 := by omega
  have hev := h.2.even
  have hc := L.cnt_le s
  have hA := due_any (w := (w.alloc (.cells #[.int .i64 kind, .int .i64 (x : Int), .int .i64 (y : Int), .int .i64 c, .string os, .string ot] 43)).alloc (.cells #[.int .i64 4, .int .i64 0, .int .i64 0, .string (L.bs [])] 45)) ⟨(h.1.alloc _).alloc _, h.2⟩ (x : Int) (y : Int)
  rw [he] at hA
  have HA := hid hA
  have H := hid h
  have cm := (h.1.m x hx).c
  have hbn : (s.hdl x == -1) = false := by rw [L.hdl_open hop]; simp; omega
  have hM := h.1.lt
  clear hA he h hop
  go_enter Try.func33, Try.ntmps33
  go_wp2_with fail
  refine HA.out.mono ?_
  rintro e w1 ⟨rfl, rfl⟩
  go_wp2_with fail
  go_quiet (fail)
  go_wp2_with fail
  go_ret
  exact ⟨rfl, ⟨((H.out.1.alloc _).alloc _).drewN _, H.out.2⟩, (((Fr.refl _ _).alloc _).alloc _).drewN _⟩

theorem turnPair_hi_lt {w : World} {bD : Nat} {s : L.St} (h : DS w bD s) (kind c : Int) (os ot : ByteArray) (x y : Nat) (hx : x < 4) (hy : y < 4) (he : L.pair s (x : Int) (y : Int) = (0, 0, 4, L.give (L.take s x) x)) (hlt : (x : Int) < (y : Int)) (hop : s.op x = false) :
    Calls Try.prog 33 #[.pointer (some ⟨bD, 0, none⟩), .agg #[.int .i64 kind, .int .i64 (x : Int), .int .i64 (y : Int), .int .i64 c, .string os, .string ot], .agg #[.int .i64 4, .int .i64 0, .int .i64 0, .string (L.bs [])]] w fun e w' => e = .returned (.bool true) ∧ DS w' bD (L.give (L.take s x) x) ∧ Fr (S1 bD) w w' := by
  have hx0 : (0 : Int) ≤ (x : Int) := by omega
  have hy0 : (0 : Int) ≤ (y : Int) := by omega
  have hx1 : (x : Int) < 4 := by omega
  have hy1 : (y : Int) < 4 := by omega
  have hev := h.2.even
  have hc := L.cnt_le s
  have hA := due_any (w := (w.alloc (.cells #[.int .i64 kind, .int .i64 (x : Int), .int .i64 (y : Int), .int .i64 c, .string os, .string ot] 43)).alloc (.cells #[.int .i64 4, .int .i64 0, .int .i64 0, .string (L.bs [])] 45)) ⟨(h.1.alloc _).alloc _, h.2⟩ (x : Int) (y : Int)
  rw [he] at hA
  have HA := hid hA
  have H := hid h
  have cm := (h.1.m x hx).c
  rw [L.hdl_free hop] at cm
  have HO := hid hop
  have hM := h.1.lt
  have hS : ∀ i, w.heap.size ≤ i → ¬ S1 bD i := fun i hi => by unfold S1; omega
  have HS := hid hS
  clear hA he h hop hS
  go_enter Try.func33, Try.ntmps33
  go_wp2_with fail
  refine HA.out.mono ?_
  rintro e w1 ⟨rfl, rfl⟩
  go_wp2_with fail
  go_quiet (fail)
  go_wp2_with fail
  have hB := dtake_any (((H.out.1.alloc (.cells #[.int .i64 kind, .int .i64 (x : Int), .int .i64 (y : Int), .int .i64 c, .string os, .string ot] 43)).alloc (.cells #[.int .i64 4, .int .i64 0, .int .i64 0, .string (L.bs [])] 45)).drewN nq) hev (by omega) x hx 0
  have HB := hid hB
  clear hB
  refine HB.out.mono ?_
  rintro e w2 ⟨rfl, hd2, hf2⟩
  have hev2 : (L.noteL s.tr 65 x).length % 2 = 0 := (L.noteL_len 65 x H.out.2.len H.out.2.even).2
  have HC := hid (dgive_any hd2 hev2 (by omega) x hx)
  have q2 := (box3 (o := ⟨kind, (x : Int), (y : Int), c, os, ot⟩) (e := 4) (n := 0) (m := 0) (t := []) HS.out (((Fr.refl (S1 bD) _).drewN nq).trans hf2)).2
  have HFF := hid ((((Fr.refl (S1 bD) _).drewN nq)).trans hf2)
  clear hd2 hf2 HB q2 cm
  go_wp2_with fail
  refine HC.out.mono ?_
  rintro e w3 ⟨rfl, hd3, hf3⟩
  have HD3 := hid (take_give_ds H.out.2 hx HO.out hd3)
  have q3 := (box3 (o := ⟨kind, (x : Int), (y : Int), c, os, ot⟩) (e := 4) (n := 0) (m := 0) (t := []) HS.out ((HFF.out).trans hf3)).2
  obtain ⟨p0, p1, p2, p3, hf03⟩ := q3
  have HF3 := hid hf03
  clear hd3 hf3 hf03 HC
  go_wp2_with fail
  go_ret
  exact ⟨rfl, HD3.out, HF3.out⟩

theorem turnPair_ok_lt {w : World} {bD : Nat} {s : L.St} (h : DS w bD s) (kind c : Int) (os ot : ByteArray) (x y : Nat) (hx : x < 4) (hy : y < 4) (he : L.pair s (x : Int) (y : Int) = ((x : Int) + 4 * (s.gen x : Int), (y : Int) + 4 * (s.gen y : Int), 0, L.take (L.take s x) y)) (hlt : (x : Int) < (y : Int)) (hop : s.op x = false) (hop2 : s.op y = false) :
    Calls Try.prog 33 #[.pointer (some ⟨bD, 0, none⟩), .agg #[.int .i64 kind, .int .i64 (x : Int), .int .i64 (y : Int), .int .i64 c, .string os, .string ot], .agg #[.int .i64 0, .int .i64 ((x : Int) + 4 * (s.gen x : Int)), .int .i64 ((y : Int) + 4 * (s.gen y : Int)), .string (L.bs [])]] w fun e w' => e = .returned (.bool true) ∧ DS w' bD (L.take (L.take s x) y) ∧ Fr (S1 bD) w w' := by
  have hx0 : (0 : Int) ≤ (x : Int) := by omega
  have hy0 : (0 : Int) ≤ (y : Int) := by omega
  have hx1 : (x : Int) < 4 := by omega
  have hy1 : (y : Int) < 4 := by omega
  have hev := h.2.even
  have hc := L.cnt_le s
  have hA := due_any (w := (w.alloc (.cells #[.int .i64 kind, .int .i64 (x : Int), .int .i64 (y : Int), .int .i64 c, .string os, .string ot] 43)).alloc (.cells #[.int .i64 0, .int .i64 ((x : Int) + 4 * (s.gen x : Int)), .int .i64 ((y : Int) + 4 * (s.gen y : Int)), .string (L.bs [])] 45)) ⟨(h.1.alloc _).alloc _, h.2⟩ (x : Int) (y : Int)
  rw [he] at hA
  have HA := hid hA
  have H := hid h
  have HO := hid hop
  have HO2 : Hid ((L.take s x).op y = false) := by unfold Hid; simp only [L.take, L.updB]; rw [if_neg (by omega)]; exact hop2
  have hM := h.1.lt
  have hS : ∀ i, w.heap.size ≤ i → ¬ S1 bD i := fun i hi => by unfold S1; omega
  have HS := hid hS
  have HG : Hid ((s.gen x : Int) < 4 ∧ (s.gen y : Int) < 4) := by
    have h1 := h.2.gen x hx
    have h2 := h.2.gen y hy
    unfold Hid
    omega
  clear hA he h hop hop2 hS
  obtain ⟨X, hX⟩ : ∃ X : Int, X = (x : Int) + 4 * (s.gen x : Int) := ⟨_, rfl⟩
  obtain ⟨Y, hY⟩ : ∃ Y : Int, Y = (y : Int) + 4 * (s.gen y : Int) := ⟨_, rfl⟩
  rw [← hX, ← hY] at HA ⊢
  have HX := hid hX
  have HY := hid hY
  clear hX hY
  go_enter Try.func33, Try.ntmps33
  go_wp2_with fail
  refine HA.out.mono ?_
  rintro e w1 ⟨rfl, rfl⟩
  go_wp2_with fail
  go_quiet (fail)
  go_wp2_with fail
  have hB := dtake_ok ⟨((H.out.1.alloc (.cells #[.int .i64 kind, .int .i64 (x : Int), .int .i64 (y : Int), .int .i64 c, .string os, .string ot] 43)).alloc (.cells #[.int .i64 0, .int .i64 X, .int .i64 Y, .string (L.bs [])] 45)).drewN nq, H.out.2⟩ x hx HO.out
  rw [← HX.out] at hB
  have HB := hid hB
  clear hB
  refine HB.out.mono ?_
  rintro e w2 ⟨rfl, hd2, hf2⟩
  have hC := dtake_ok hd2 y hy HO2.out
  have hC2 : (Y : Int) = (y : Int) + 4 * ((L.take s x).gen y : Int) := HY.out
  rw [← hC2] at hC
  have HC := hid hC
  have q2 := (box3 (o := ⟨kind, (x : Int), (y : Int), c, os, ot⟩) (e := 0) (n := X) (m := Y) (t := []) HS.out (((Fr.refl (S1 bD) _).drewN nq).trans hf2)).2
  have HF2 := hid q2.2.2.2.2
  clear hd2 hf2 HB q2 hC hC2
  go_wp2_with fail
  refine HC.out.mono ?_
  rintro e w3 ⟨rfl, hd3, hf3⟩
  have HD3 := hid hd3
  have HF3 := hid (HF2.out.trans hf3)
  clear hd3 hf3 HC
  go_wp2_with fail
  go_ret
  exact ⟨rfl, HD3.out, HF3.out⟩

theorem turnPair_lo_gt {w : World} {bD : Nat} {s : L.St} (h : DS w bD s) (kind c : Int) (os ot : ByteArray) (x y : Nat) (hx : x < 4) (hy : y < 4) (he : L.pair s (x : Int) (y : Int) = (0, 0, 4, s)) (hlt : (y : Int) < (x : Int)) (hop : s.op y = true) :
    Calls Try.prog 33 #[.pointer (some ⟨bD, 0, none⟩), .agg #[.int .i64 kind, .int .i64 (x : Int), .int .i64 (y : Int), .int .i64 c, .string os, .string ot], .agg #[.int .i64 4, .int .i64 0, .int .i64 0, .string (L.bs [])]] w fun e w' => e = .returned (.bool true) ∧ DS w' bD s ∧ Fr (S1 bD) w w' := by
  have hx0 : (0 : Int) ≤ (x : Int) := by omega
  have hy0 : (0 : Int) ≤ (y : Int) := by omega
  have hx1 : (x : Int) < 4 := by omega
  have hy1 : (y : Int) < 4 := by omega
  have hev := h.2.even
  have hc := L.cnt_le s
  have hA := due_any (w := (w.alloc (.cells #[.int .i64 kind, .int .i64 (x : Int), .int .i64 (y : Int), .int .i64 c, .string os, .string ot] 43)).alloc (.cells #[.int .i64 4, .int .i64 0, .int .i64 0, .string (L.bs [])] 45)) ⟨(h.1.alloc _).alloc _, h.2⟩ (x : Int) (y : Int)
  rw [he] at hA
  have HA := hid hA
  have H := hid h
  have cm := (h.1.m y hy).c
  have hbn : (s.hdl y == -1) = false := by rw [L.hdl_open hop]; simp; omega
  have hM := h.1.lt
  clear hA he h hop
  go_enter Try.func33, Try.ntmps33
  go_wp2_with fail
  refine HA.out.mono ?_
  rintro e w1 ⟨rfl, rfl⟩
  go_wp2_with fail
  go_quiet (fail)
  go_wp2_with fail
  go_ret
  exact ⟨rfl, ⟨((H.out.1.alloc _).alloc _).drewN _, H.out.2⟩, (((Fr.refl _ _).alloc _).alloc _).drewN _⟩

theorem turnPair_hi_gt {w : World} {bD : Nat} {s : L.St} (h : DS w bD s) (kind c : Int) (os ot : ByteArray) (x y : Nat) (hx : x < 4) (hy : y < 4) (he : L.pair s (x : Int) (y : Int) = (0, 0, 4, L.give (L.take s y) y)) (hlt : (y : Int) < (x : Int)) (hop : s.op y = false) :
    Calls Try.prog 33 #[.pointer (some ⟨bD, 0, none⟩), .agg #[.int .i64 kind, .int .i64 (x : Int), .int .i64 (y : Int), .int .i64 c, .string os, .string ot], .agg #[.int .i64 4, .int .i64 0, .int .i64 0, .string (L.bs [])]] w fun e w' => e = .returned (.bool true) ∧ DS w' bD (L.give (L.take s y) y) ∧ Fr (S1 bD) w w' := by
  have hx0 : (0 : Int) ≤ (x : Int) := by omega
  have hy0 : (0 : Int) ≤ (y : Int) := by omega
  have hx1 : (x : Int) < 4 := by omega
  have hy1 : (y : Int) < 4 := by omega
  have hev := h.2.even
  have hc := L.cnt_le s
  have hA := due_any (w := (w.alloc (.cells #[.int .i64 kind, .int .i64 (x : Int), .int .i64 (y : Int), .int .i64 c, .string os, .string ot] 43)).alloc (.cells #[.int .i64 4, .int .i64 0, .int .i64 0, .string (L.bs [])] 45)) ⟨(h.1.alloc _).alloc _, h.2⟩ (x : Int) (y : Int)
  rw [he] at hA
  have HA := hid hA
  have H := hid h
  have cm := (h.1.m y hy).c
  rw [L.hdl_free hop] at cm
  have HO := hid hop
  have hM := h.1.lt
  have hS : ∀ i, w.heap.size ≤ i → ¬ S1 bD i := fun i hi => by unfold S1; omega
  have HS := hid hS
  clear hA he h hop hS
  go_enter Try.func33, Try.ntmps33
  go_wp2_with fail
  refine HA.out.mono ?_
  rintro e w1 ⟨rfl, rfl⟩
  go_wp2_with fail
  go_quiet (fail)
  go_wp2_with fail
  have hB := dtake_any (((H.out.1.alloc (.cells #[.int .i64 kind, .int .i64 (x : Int), .int .i64 (y : Int), .int .i64 c, .string os, .string ot] 43)).alloc (.cells #[.int .i64 4, .int .i64 0, .int .i64 0, .string (L.bs [])] 45)).drewN nq) hev (by omega) y hy 0
  have HB := hid hB
  clear hB
  refine HB.out.mono ?_
  rintro e w2 ⟨rfl, hd2, hf2⟩
  have hev2 : (L.noteL s.tr 65 y).length % 2 = 0 := (L.noteL_len 65 y H.out.2.len H.out.2.even).2
  have HC := hid (dgive_any hd2 hev2 (by omega) y hy)
  have q2 := (box3 (o := ⟨kind, (x : Int), (y : Int), c, os, ot⟩) (e := 4) (n := 0) (m := 0) (t := []) HS.out (((Fr.refl (S1 bD) _).drewN nq).trans hf2)).2
  have HFF := hid ((((Fr.refl (S1 bD) _).drewN nq)).trans hf2)
  clear hd2 hf2 HB q2 cm
  go_wp2_with fail
  refine HC.out.mono ?_
  rintro e w3 ⟨rfl, hd3, hf3⟩
  have HD3 := hid (take_give_ds H.out.2 hy HO.out hd3)
  have q3 := (box3 (o := ⟨kind, (x : Int), (y : Int), c, os, ot⟩) (e := 4) (n := 0) (m := 0) (t := []) HS.out ((HFF.out).trans hf3)).2
  obtain ⟨p0, p1, p2, p3, hf03⟩ := q3
  have HF3 := hid hf03
  clear hd3 hf3 hf03 HC
  go_wp2_with fail
  go_ret
  exact ⟨rfl, HD3.out, HF3.out⟩

theorem turnPair_ok_gt {w : World} {bD : Nat} {s : L.St} (h : DS w bD s) (kind c : Int) (os ot : ByteArray) (x y : Nat) (hx : x < 4) (hy : y < 4) (he : L.pair s (x : Int) (y : Int) = ((x : Int) + 4 * (s.gen x : Int), (y : Int) + 4 * (s.gen y : Int), 0, L.take (L.take s y) x)) (hlt : (y : Int) < (x : Int)) (hop : s.op y = false) (hop2 : s.op x = false) :
    Calls Try.prog 33 #[.pointer (some ⟨bD, 0, none⟩), .agg #[.int .i64 kind, .int .i64 (x : Int), .int .i64 (y : Int), .int .i64 c, .string os, .string ot], .agg #[.int .i64 0, .int .i64 ((x : Int) + 4 * (s.gen x : Int)), .int .i64 ((y : Int) + 4 * (s.gen y : Int)), .string (L.bs [])]] w fun e w' => e = .returned (.bool true) ∧ DS w' bD (L.take (L.take s y) x) ∧ Fr (S1 bD) w w' := by
  have hx0 : (0 : Int) ≤ (x : Int) := by omega
  have hy0 : (0 : Int) ≤ (y : Int) := by omega
  have hx1 : (x : Int) < 4 := by omega
  have hy1 : (y : Int) < 4 := by omega
  have hev := h.2.even
  have hc := L.cnt_le s
  have hA := due_any (w := (w.alloc (.cells #[.int .i64 kind, .int .i64 (x : Int), .int .i64 (y : Int), .int .i64 c, .string os, .string ot] 43)).alloc (.cells #[.int .i64 0, .int .i64 ((x : Int) + 4 * (s.gen x : Int)), .int .i64 ((y : Int) + 4 * (s.gen y : Int)), .string (L.bs [])] 45)) ⟨(h.1.alloc _).alloc _, h.2⟩ (x : Int) (y : Int)
  rw [he] at hA
  have HA := hid hA
  have H := hid h
  have HO := hid hop
  have HO2 : Hid ((L.take s y).op x = false) := by unfold Hid; simp only [L.take, L.updB]; rw [if_neg (by omega)]; exact hop2
  have hM := h.1.lt
  have hS : ∀ i, w.heap.size ≤ i → ¬ S1 bD i := fun i hi => by unfold S1; omega
  have HS := hid hS
  have HG : Hid ((s.gen x : Int) < 4 ∧ (s.gen y : Int) < 4) := by
    have h1 := h.2.gen x hx
    have h2 := h.2.gen y hy
    unfold Hid
    omega
  clear hA he h hop hop2 hS
  obtain ⟨X, hX⟩ : ∃ X : Int, X = (x : Int) + 4 * (s.gen x : Int) := ⟨_, rfl⟩
  obtain ⟨Y, hY⟩ : ∃ Y : Int, Y = (y : Int) + 4 * (s.gen y : Int) := ⟨_, rfl⟩
  rw [← hX, ← hY] at HA ⊢
  have HX := hid hX
  have HY := hid hY
  clear hX hY
  go_enter Try.func33, Try.ntmps33
  go_wp2_with fail
  refine HA.out.mono ?_
  rintro e w1 ⟨rfl, rfl⟩
  go_wp2_with fail
  go_quiet (fail)
  go_wp2_with fail
  have hB := dtake_ok ⟨((H.out.1.alloc (.cells #[.int .i64 kind, .int .i64 (x : Int), .int .i64 (y : Int), .int .i64 c, .string os, .string ot] 43)).alloc (.cells #[.int .i64 0, .int .i64 X, .int .i64 Y, .string (L.bs [])] 45)).drewN nq, H.out.2⟩ y hy HO.out
  rw [← HY.out] at hB
  have HB := hid hB
  clear hB
  refine HB.out.mono ?_
  rintro e w2 ⟨rfl, hd2, hf2⟩
  have hC := dtake_ok hd2 x hx HO2.out
  have hC2 : (X : Int) = (x : Int) + 4 * ((L.take s y).gen x : Int) := HX.out
  rw [← hC2] at hC
  have HC := hid hC
  have q2 := (box3 (o := ⟨kind, (x : Int), (y : Int), c, os, ot⟩) (e := 0) (n := X) (m := Y) (t := []) HS.out (((Fr.refl (S1 bD) _).drewN nq).trans hf2)).2
  have HF2 := hid q2.2.2.2.2
  clear hd2 hf2 HB q2 hC hC2
  go_wp2_with fail
  refine HC.out.mono ?_
  rintro e w3 ⟨rfl, hd3, hf3⟩
  have HD3 := hid hd3
  have HF3 := hid (HF2.out.trans hf3)
  clear hd3 hf3 HC
  go_wp2_with fail
  go_ret
  exact ⟨rfl, HD3.out, HF3.out⟩

theorem turnPair_any {w : World} {bD : Nat} {s : L.St} (h : DS w bD s) (kind a b c : Int) (os ot : ByteArray) :
    Calls Try.prog 33 #[.pointer (some ⟨bD, 0, none⟩), .agg #[.int .i64 kind, .int .i64 a, .int .i64 b, .int .i64 c, .string os, .string ot], .agg #[.int .i64 (L.pair s a b).2.2.1, .int .i64 (L.pair s a b).1, .int .i64 (L.pair s a b).2.1, .string (L.bs [])]] w
      fun e w' => e = .returned (.bool true) ∧ DS w' bD (L.pair s a b).2.2.2 ∧ Fr (S1 bD) w w' := by
  by_cases ha : 0 ≤ a ∧ a < 4
  · by_cases hb : 0 ≤ b ∧ b < 4
    · obtain ⟨x, rfl⟩ := Int.eq_ofNat_of_zero_le ha.1
      obtain ⟨y, rfl⟩ := Int.eq_ofNat_of_zero_le hb.1
      have hx : x < 4 := by omega
      have hy : y < 4 := by omega
      by_cases hab : (x : Int) = (y : Int)
      · have he : L.pair s (x : Int) (y : Int) = (0, 0, 3, s) := by unfold L.pair; rw [if_pos ha, if_pos hb, if_pos hab]
        rw [he]
        exact turnPair_err h kind x y c os ot 3 he (.inr rfl)
      · rcases Int.lt_or_gt_of_ne hab with hl | hl
        · have elo : L.lo (x : Int) (y : Int) = (x : Int) := by simp [L.lo]; omega
          have ehi : L.hi (x : Int) (y : Int) = (y : Int) := by simp [L.hi]; omega
          cases ho : s.op x
          · cases ho2 : s.op y
            · have he : L.pair s (x : Int) (y : Int) = ((x : Int) + 4 * (s.gen x : Int), (y : Int) + 4 * (s.gen y : Int), 0, L.take (L.take s x) y) := by
                unfold L.pair; rw [if_pos ha, if_pos hb, if_neg hab, elo, ehi]; simp only [Int.toNat_natCast]; rw [if_neg (by simp [ho]), if_neg (by simp [ho2])]
              rw [he]
              exact turnPair_ok_lt h kind c os ot x y hx hy he hl ho ho2
            · have he : L.pair s (x : Int) (y : Int) = (0, 0, 4, L.give (L.take s x) x) := by
                unfold L.pair; rw [if_pos ha, if_pos hb, if_neg hab, elo, ehi]; simp only [Int.toNat_natCast]; rw [if_neg (by simp [ho]), if_pos ho2]
              rw [he]
              exact turnPair_hi_lt h kind c os ot x y hx hy he hl ho
          · have he : L.pair s (x : Int) (y : Int) = (0, 0, 4, s) := by
              unfold L.pair; rw [if_pos ha, if_pos hb, if_neg hab, elo]; simp only [Int.toNat_natCast]; rw [if_pos ho]
            rw [he]
            exact turnPair_lo_lt h kind c os ot x y hx hy he hl ho
        · have elo : L.lo (x : Int) (y : Int) = (y : Int) := by simp [L.lo]; omega
          have ehi : L.hi (x : Int) (y : Int) = (x : Int) := by simp [L.hi]; omega
          cases ho : s.op y
          · cases ho2 : s.op x
            · have he : L.pair s (x : Int) (y : Int) = ((x : Int) + 4 * (s.gen x : Int), (y : Int) + 4 * (s.gen y : Int), 0, L.take (L.take s y) x) := by
                unfold L.pair; rw [if_pos ha, if_pos hb, if_neg hab, elo, ehi]; simp only [Int.toNat_natCast]; rw [if_neg (by simp [ho]), if_neg (by simp [ho2])]
              rw [he]
              exact turnPair_ok_gt h kind c os ot x y hx hy he hl ho ho2
            · have he : L.pair s (x : Int) (y : Int) = (0, 0, 4, L.give (L.take s y) y) := by
                unfold L.pair; rw [if_pos ha, if_pos hb, if_neg hab, elo, ehi]; simp only [Int.toNat_natCast]; rw [if_neg (by simp [ho]), if_pos ho2]
              rw [he]
              exact turnPair_hi_gt h kind c os ot x y hx hy he hl ho
          · have he : L.pair s (x : Int) (y : Int) = (0, 0, 4, s) := by
              unfold L.pair; rw [if_pos ha, if_pos hb, if_neg hab, elo]; simp only [Int.toNat_natCast]; rw [if_pos ho]
            rw [he]
            exact turnPair_lo_gt h kind c os ot x y hx hy he hl ho
    · have he : L.pair s a b = (0, 0, 2, s) := by unfold L.pair; rw [if_pos ha, if_neg hb]
      rw [he]
      exact turnPair_err h kind a b c os ot 2 he (.inl rfl)
  · have he : L.pair s a b = (0, 0, 2, s) := by unfold L.pair; rw [if_neg ha]
    rw [he]
    exact turnPair_err h kind a b c os ot 2 he (.inl rfl)
end Go.Proofs.Qxb6500454a
