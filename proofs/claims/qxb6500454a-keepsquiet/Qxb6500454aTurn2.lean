import Derived.Test.Qxb6500454aTurn
import Derived.Deep.RegionWith
import Derived.Deep.DrawnRows
namespace Go.Proofs.Qxb6500454a
open Go Go.RowKit
set_option maxRecDepth 100000
set_option maxHeartbeats 1600000
set_option linter.unusedSimpArgs false
set_option linter.unusedVariables false

def gTo (s : L.St) : Nat → List UInt8
  | 0 => [32, 103, 101, 110, 61]
  | k + 1 => gTo s k ++ [L.dig (s.gen k)]

theorem gTo_len (s : L.St) : ∀ k, (gTo s k).length = 5 + k
  | 0 => rfl
  | k + 1 => by simp [gTo, gTo_len s k]; omega

theorem showL_eq2 (s : L.St) : L.showL s = opTo s 4 ++ gTo s 4 ++ [32, 116, 114, 97, 99, 101, 61] ++ s.tr := by
  simp [L.showL, gTo, opTo]

theorem shown_any {w : World} {bD : Nat} {s : L.St} (h : DS w bD s) :
    Calls Try.prog 24 #[.pointer (some ⟨bD, 0, none⟩)] w fun e w' => e = .returned (.string (L.bs (L.showL s))) ∧ Fr (fun _ => False) w w' := by
  have H := hid h
  clear h
  go_enter Try.func24, Try.ntmps24
  go_wp2_with fail
  go_loopw [3, 4, 5] (fun t g i wr => ∃ k : Nat, k ≤ 4 ∧ i = .int .i64 k ∧ t = .string (L.bs (opTo s k)) ∧ g = .string (L.bs (gTo s k)) ∧ Fr (fun _ => False) w wr) (fun _ _ i _ => 4 - (intOf i).toNat)
  case atStart => exact ⟨0, by omega, rfl, rfl, rfl, Fr.refl _ _⟩
  case round =>
    obtain ⟨k, hk, rfl, rfl, rfl, hf⟩ := hrel
    have hk0 : (0 : Int) ≤ (k : Int) := by omega
    have hz : (L.bs (opTo s k)).size ≤ 100 := by rw [bs_size, opTo_len]; omega
    have hz2 : (L.bs (gTo s k)).size ≤ 100 := by rw [bs_size, gTo_len]; omega
    have hD := H.out.1.fr hf (fun f => f)
    have HF := hid hf
    clear hf
    by_cases hlt : k < 4
    · have hk4 : (k : Int) < 4 := by omega
      have cm := (hD.m k hlt).c
      have cg := (hD.g k hlt).c
      have hg := hD.lg k hlt
      have hg' : (s.gen k : Int) < 4 := by omega
      have hg0 : (0 : Int) ≤ (s.gen k : Int) := by omega
      have hcv : (convert 55 9 (.slice (some ⟨wr.heap.size, 0, none⟩) 1 1)).run Try.prog (wr.alloc (.cells #[.int .u8 (48 + (s.gen k : Int))] 5)) = .ok (.string (L.bs [L.dig (s.gen k)])) (wr.alloc (.cells #[.int .u8 (48 + (s.gen k : Int))] 5)) := by
        refine run_convert_bytes_back (P := Try.prog) _ 55 9 5 ⟨wr.heap.size, 0, none⟩ 1 [L.dig (s.gen k)] Try.underlying55 Try.underlying5 Try.underlying9 ?_
        intro j hj
        have : j = 0 := by simp at hj; exact hj
        subst this
        rw [add_addr, Nat.zero_add, World.cell?_alloc_new]
        simp [dig_toNat (s.gen k) (by omega)]
      have hz3 : (L.bs [L.dig (s.gen k)]).size ≤ 1 := by rw [bs_size]; simp
      clear hD
      cases ho : s.op k
      · have hb := hdl_ne_false ho
        have HE : Hid (opTo s (k + 1) = opTo s k ++ [48]) := by simp [Hid, opTo, L.openD, ho]
        clear ho
        go_wp2_with fail
        exact ⟨⟨k + 1, by omega, by go_num, by rw [HE.out, ← L.bs_append]; rfl, by rw [L.bs_append]; rfl, HF.out.alloc _⟩, by simp [intOf]; omega⟩
      · have hb := hdl_ne_true ho
        have HE : Hid (opTo s (k + 1) = opTo s k ++ [49]) := by simp [Hid, opTo, L.openD, ho]
        clear ho
        go_wp2_with fail
        exact ⟨⟨k + 1, by omega, by go_num, by rw [HE.out, ← L.bs_append]; rfl, by rw [L.bs_append]; rfl, HF.out.alloc _⟩, by simp [intOf]; omega⟩
    · have hk4 : ¬ (k : Int) < 4 := by omega
      have hk4' : k = 4 := by omega
      subst hk4'
      have ct := hD.t.c
      have hz3 : (L.bs s.tr).size ≤ 24 := by rw [bs_size]; exact hD.ll
      have HE := hid (showL_eq2 s)
      clear hD
      go_wp2_with fail
      go_ret
      refine ⟨?_, HF.out⟩
      rw [HE.out]
      rw [← L.bs_append, ← L.bs_append, ← L.bs_append]
      rfl

theorem allTo_cnt (s : L.St) : (L.allTo 4 s).1 = s.cnt := by
  simp only [L.allTo, L.St.cnt, L.b1]
  cases h0 : s.op 0 <;> cases h1 : s.op 1 <;> cases h2 : s.op 2 <;> cases h3 : s.op 3 <;> simp [L.give, L.updB, h0, h1, h2, h3]

theorem DS.drewN {w : World} {bD : Nat} {s : L.St} (h : DS w bD s) (q : Nat) : DS (w.drewN q) bD s := ⟨h.1.drewN q, h.2⟩
theorem DS.alloc {w : World} {bD : Nat} {s : L.St} (h : DS w bD s) (o : Obj) : DS (w.alloc o) bD s := ⟨h.1.alloc o, h.2⟩
theorem DS.fr {w w' : World} {bD : Nat} {s : L.St} (h : DS w bD s) {S : Nat → Prop} (hf : Fr S w w') (hn : ¬ S bD) : DS w' bD s := ⟨h.1.fr hf hn, h.2⟩

theorem DS.cleared {w : World} {bD : Nat} {s : L.St} (h : DS w bD s) : DS (w.setCell ⟨bD, 9, none⟩ (.string ⟨#[]⟩)) bD (L.clear s) :=
  ⟨⟨fun k hk => (h.1.m k hk).other (by omega) _, fun k hk => (h.1.g k hk).other (by omega) _, h.1.c.other (by omega) _, h.1.t.same _, h.1.lg, by simp [L.clear]⟩, L.clear_ok h.2⟩

theorem turn_clear {w : World} {bD : Nat} {s : L.St} (h : DS w bD s) (a b c : Int) (os ot : ByteArray) (e n m : Int) (t : ByteArray) :
    Calls Try.prog 23 #[.pointer (some ⟨bD, 0, none⟩), .agg #[.int .i64 2, .int .i64 a, .int .i64 b, .int .i64 c, .string os, .string ot], .agg #[.int .i64 e, .int .i64 n, .int .i64 m, .string t]] w
      fun e w' => e = .returned (.bool true) ∧ DS w' bD (L.clear s) ∧ Fr (S1 bD) w w' := by
  have ct := h.1.t.c
  have ft := h.1.t.f
  have hM := h.1.lt
  go_enter Try.func23, Try.ntmps23
  go_wp2_with fail
  go_ret
  exact ⟨rfl, (h.cleared.alloc _).alloc _, (((Fr.refl (S1 bD) _).setCell (fun _ => by simp [S1]) _).alloc _).alloc _⟩

/-- The answer's cells behind a call that touched the ghost alone. -/
theorem ans_cells {w w1 : World} {bD : Nat} (hM : bD < w.heap.size) {c : Array Value} {v0 v1 v2 v3 : Value} (hf : Fr (S1 bD) ((w.alloc (.cells c 43)).alloc (.cells #[v0, v1, v2, v3] 45)) w1) :
    w1.cell? ⟨w.heap.size + 1, 0, none⟩ = some v0 ∧ w1.cell? ⟨w.heap.size + 1, 1, none⟩ = some v1 ∧ w1.cell? ⟨w.heap.size + 1, 3, none⟩ = some v3 ∧ Fr (S1 bD) w w1 := by
  have e2 : ∀ {q v}, (#[v0, v1, v2, v3] : Array Value)[q]? = some v → w1.cell? ⟨w.heap.size + 1, q, none⟩ = some v := fun {q v} h => by
    have := At.new (w.alloc (.cells c 43)) #[v0, v1, v2, v3] 45 h
    simp only [World.size_alloc] at this
    exact (this.fr hf (by unfold S1; omega)).c
  exact ⟨e2 rfl, e2 rfl, e2 rfl, ((Fr.refl _ _).alloc _).alloc _ |>.trans hf⟩

theorem turn_acq_free {w : World} {bD : Nat} {s : L.St} (h : DS w bD s) (x : Nat) (hx : x < 4) (ho : s.op x = false) (b c : Int) (os ot : ByteArray) (m : Int) (t : ByteArray) :
    Calls Try.prog 23 #[.pointer (some ⟨bD, 0, none⟩), .agg #[.int .i64 3, .int .i64 (x : Int), .int .i64 b, .int .i64 c, .string os, .string ot], .agg #[.int .i64 0, .int .i64 ((x : Int) + 4 * (s.gen x : Int)), .int .i64 m, .string t]] w
      fun e w' => e = .returned (.bool true) ∧ DS w' bD (L.take s x) ∧ Fr (S1 bD) w w' := by
  have hx0 : (0 : Int) ≤ (x : Int) := by omega
  have hx1 : (x : Int) < 4 := by omega
  have hd0 : decide ((x : Int) < 0) = false := by simp
  have hd1 : decide (4 ≤ (x : Int)) = false := by simp; omega
  have cm := (h.1.m x hx).c
  rw [L.hdl_free ho] at cm
  have hM := h.1.lt
  have HO := hid ho
  have H := hid h
  obtain ⟨X, hX⟩ : ∃ X : Int, X = (x : Int) + 4 * (s.gen x : Int) := ⟨_, rfl⟩
  rw [← hX]
  have HX := hid hX
  clear hX h ho
  go_enter Try.func23, Try.ntmps23
  go_wp2_with fail
  go_quiet (fail)
  go_wp2_with fail
  have hB := dtake_ok (((H.out.alloc (.cells #[.int .i64 3, .int .i64 (x : Int), .int .i64 b, .int .i64 c, .string os, .string ot] 43)).alloc (.cells #[.int .i64 0, .int .i64 X, .int .i64 m, .string t] 45)).drewN nq) x hx HO.out
  rw [← HX.out] at hB
  have HB := hid hB
  clear hB
  refine HB.out.mono ?_
  rintro e w2 ⟨rfl, hd2, hf2⟩
  obtain ⟨p0, p1, p3, hf⟩ := ans_cells hM (((Fr.refl (S1 bD) _).drewN nq).trans hf2)
  have HD := hid hd2
  have HF := hid hf
  clear hd2 hf2 hf HB cm
  go_wp2_with fail
  go_ret
  exact ⟨rfl, HD.out, HF.out⟩

theorem turn_acq_held {w : World} {bD : Nat} {s : L.St} (h : DS w bD s) (x : Nat) (hx : x < 4) (ho : s.op x = true) (b c : Int) (os ot : ByteArray) (m : Int) (t : ByteArray) :
    Calls Try.prog 23 #[.pointer (some ⟨bD, 0, none⟩), .agg #[.int .i64 3, .int .i64 (x : Int), .int .i64 b, .int .i64 c, .string os, .string ot], .agg #[.int .i64 4, .int .i64 0, .int .i64 m, .string t]] w
      fun e w' => e = .returned (.bool true) ∧ DS w' bD s ∧ Fr (S1 bD) w w' := by
  have hx0 : (0 : Int) ≤ (x : Int) := by omega
  have hx1 : (x : Int) < 4 := by omega
  have hd0 : decide ((x : Int) < 0) = false := by simp
  have hd1 : decide (4 ≤ (x : Int)) = false := by simp; omega
  have cm := (h.1.m x hx).c
  have hb := hdl_ne_true ho
  have hM := h.1.lt
  have H := hid h
  clear h ho
  go_enter Try.func23, Try.ntmps23
  go_wp2_with fail
  go_quiet (fail)
  go_wp2_with fail
  go_ret
  exact ⟨rfl, ((H.out.alloc _).alloc _).drewN _, (((Fr.refl _ _).alloc _).alloc _).drewN _⟩

theorem turn_acq_bad {w : World} {bD : Nat} {s : L.St} (h : DS w bD s) (a : Int) (ha : ¬ (0 ≤ a ∧ a < 4)) (b c : Int) (os ot : ByteArray) (m : Int) (t : ByteArray) :
    Calls Try.prog 23 #[.pointer (some ⟨bD, 0, none⟩), .agg #[.int .i64 3, .int .i64 a, .int .i64 b, .int .i64 c, .string os, .string ot], .agg #[.int .i64 2, .int .i64 0, .int .i64 m, .string t]] w
      fun e w' => e = .returned (.bool true) ∧ DS w' bD s ∧ Fr (S1 bD) w w' := by
  by_cases hlt : a < 0
  · go_enter Try.func23, Try.ntmps23
    go_wp2_with fail
    go_ret
    exact ⟨rfl, (h.alloc _).alloc _, ((Fr.refl _ _).alloc _).alloc _⟩
  · have h0 : 0 ≤ a := by omega
    have hd0 : decide (a < 0) = false := by simpa using h0
    have h1 : 4 ≤ a := by omega
    clear ha hlt
    go_enter Try.func23, Try.ntmps23
    go_wp2_with fail
    go_ret
    exact ⟨rfl, (h.alloc _).alloc _, ((Fr.refl _ _).alloc _).alloc _⟩

theorem turn_rel_bad {w : World} {bD : Nat} {s : L.St} (h : DS w bD s) (a : Int) (ha : ¬ (0 ≤ a ∧ a < 16)) (b c : Int) (os ot : ByteArray) (n m : Int) (t : ByteArray) :
    Calls Try.prog 23 #[.pointer (some ⟨bD, 0, none⟩), .agg #[.int .i64 4, .int .i64 a, .int .i64 b, .int .i64 c, .string os, .string ot], .agg #[.int .i64 2, .int .i64 n, .int .i64 m, .string t]] w
      fun e w' => e = .returned (.bool true) ∧ DS w' bD s ∧ Fr (S1 bD) w w' := by
  by_cases hlt : a < 0
  · go_enter Try.func23, Try.ntmps23
    go_wp2_with fail
    go_ret
    exact ⟨rfl, (h.alloc _).alloc _, ((Fr.refl _ _).alloc _).alloc _⟩
  · have h0 : 0 ≤ a := by omega
    have hd0 : decide (a < 0) = false := by simpa using h0
    have h1 : 16 ≤ a := by omega
    clear ha hlt
    go_enter Try.func23, Try.ntmps23
    go_wp2_with fail
    go_ret
    exact ⟨rfl, (h.alloc _).alloc _, ((Fr.refl _ _).alloc _).alloc _⟩

theorem turn_rel_stale {w : World} {bD : Nat} {s : L.St} (h : DS w bD s) (x y : Nat) (hx : x < 16) (hy : y = x % 4) (ho : s.hdl y ≠ (x : Int)) (b c : Int) (os ot : ByteArray) (n m : Int) (t : ByteArray) :
    Calls Try.prog 23 #[.pointer (some ⟨bD, 0, none⟩), .agg #[.int .i64 4, .int .i64 (x : Int), .int .i64 b, .int .i64 c, .string os, .string ot], .agg #[.int .i64 5, .int .i64 n, .int .i64 m, .string t]] w
      fun e w' => e = .returned (.bool true) ∧ DS w' bD s ∧ Fr (S1 bD) w w' := by
  have hx0 : (0 : Int) ≤ (x : Int) := by omega
  have hx1 : (x : Int) < 16 := by omega
  have hd0 : decide ((x : Int) < 0) = false := by simp
  have hd1 : decide (16 ≤ (x : Int)) = false := by simp; omega
  have hm : ((x : Int) % 4) = (y : Int) := by omega
  have hy0 : (0 : Int) ≤ (y : Int) := by omega
  have hy1 : (y : Int) < 4 := by omega
  have cm := (h.1.m y (by omega)).c
  have hb : (s.hdl y != (x : Int)) = true := by simpa using ho
  have hM := h.1.lt
  have H := hid h
  clear h ho hy
  go_enter Try.func23, Try.ntmps23
  go_wp2_with fail
  go_quiet (fail)
  go_wp2_with fail
  go_ret
  exact ⟨rfl, ((H.out.alloc _).alloc _).drewN _, (((Fr.refl _ _).alloc _).alloc _).drewN _⟩

theorem turn_rel_ok {w : World} {bD : Nat} {s : L.St} (h : DS w bD s) (x y : Nat) (hx : x < 16) (hy : y = x % 4) (ho : s.hdl y = (x : Int)) (b c : Int) (os ot : ByteArray) (n m : Int) (t : ByteArray) :
    Calls Try.prog 23 #[.pointer (some ⟨bD, 0, none⟩), .agg #[.int .i64 4, .int .i64 (x : Int), .int .i64 b, .int .i64 c, .string os, .string ot], .agg #[.int .i64 0, .int .i64 n, .int .i64 m, .string t]] w
      fun e w' => e = .returned (.bool true) ∧ DS w' bD (L.give s y) ∧ Fr (S1 bD) w w' := by
  have hx0 : (0 : Int) ≤ (x : Int) := by omega
  have hx1 : (x : Int) < 16 := by omega
  have hd0 : decide ((x : Int) < 0) = false := by simp
  have hd1 : decide (16 ≤ (x : Int)) = false := by simp; omega
  have hm : ((x : Int) % 4) = (y : Int) := by omega
  have hy0 : (0 : Int) ≤ (y : Int) := by omega
  have hy1 : (y : Int) < 4 := by omega
  have hy4 : y < 4 := by omega
  have cm := (h.1.m y (by omega)).c
  have HO := hid (L.op_of_hdl hx0 ho)
  rw [ho] at cm
  have hM := h.1.lt
  have H := hid h
  clear h ho hy
  go_enter Try.func23, Try.ntmps23
  go_wp2_with fail
  go_quiet (fail)
  go_wp2_with fail
  refine (dgive_ok (((H.out.alloc (.cells #[.int .i64 4, .int .i64 (x : Int), .int .i64 b, .int .i64 c, .string os, .string ot] 43)).alloc (.cells #[.int .i64 0, .int .i64 n, .int .i64 m, .string t] 45)).drewN nq) y hy4 HO.out).mono ?_
  rintro e w2 ⟨rfl, hd2, hf2⟩
  obtain ⟨p0, p1, p3, hf⟩ := ans_cells hM (((Fr.refl (S1 bD) _).drewN nq).trans hf2)
  have HD := hid hd2
  have HF := hid hf
  clear hd2 hf2 hf cm
  go_wp2_with fail
  go_ret
  exact ⟨rfl, HD.out, HF.out⟩

theorem turn_pair {w : World} {bD : Nat} {s : L.St} (h : DS w bD s) (a b c : Int) (os ot : ByteArray) :
    Calls Try.prog 23 #[.pointer (some ⟨bD, 0, none⟩), .agg #[.int .i64 5, .int .i64 a, .int .i64 b, .int .i64 c, .string os, .string ot], .agg #[.int .i64 (L.pair s a b).2.2.1, .int .i64 (L.pair s a b).1, .int .i64 (L.pair s a b).2.1, .string (L.bs [])]] w
      fun e w' => e = .returned (.bool true) ∧ DS w' bD (L.pair s a b).2.2.2 ∧ Fr (S1 bD) w w' := by
  have H := hid h
  have hA := turnPair_any ((h.alloc (.cells #[.int .i64 5, .int .i64 a, .int .i64 b, .int .i64 c, .string os, .string ot] 43)).alloc (.cells #[.int .i64 (L.pair s a b).2.2.1, .int .i64 (L.pair s a b).1, .int .i64 (L.pair s a b).2.1, .string (L.bs [])] 45)) 5 a b c os ot
  have HA := hid hA
  clear hA h
  go_enter Try.func23, Try.ntmps23
  go_wp2_with fail
  refine HA.out.mono ?_
  rintro e w2 ⟨rfl, hd2, hf2⟩
  go_wp2_with fail
  go_ret
  exact ⟨rfl, hd2, (((Fr.refl _ _).alloc _).alloc _).trans hf2⟩

theorem turn_held {w : World} {bD : Nat} {s : L.St} (h : DS w bD s) (a b c : Int) (os ot : ByteArray) (e m : Int) (t : ByteArray) :
    Calls Try.prog 23 #[.pointer (some ⟨bD, 0, none⟩), .agg #[.int .i64 7, .int .i64 a, .int .i64 b, .int .i64 c, .string os, .string ot], .agg #[.int .i64 e, .int .i64 (s.cnt : Int), .int .i64 m, .string t]] w
      fun e w' => e = .returned (.bool true) ∧ DS w' bD s ∧ Fr (S1 bD) w w' := by
  have cc := h.1.c.c
  have hM := h.1.lt
  have H := hid h
  clear h
  go_enter Try.func23, Try.ntmps23
  go_wp2_with fail
  go_quiet (fail)
  go_wp2_with fail
  go_ret
  refine ⟨?_, ((H.out.alloc _).alloc _).drewN _, (((Fr.refl _ _).alloc _).alloc _).drewN _⟩
  simp

theorem turn_check {w : World} {bD : Nat} {s : L.St} (h : DS w bD s) (a b c : Int) (os ot : ByteArray) (e m : Int) (t : ByteArray) :
    Calls Try.prog 23 #[.pointer (some ⟨bD, 0, none⟩), .agg #[.int .i64 9, .int .i64 a, .int .i64 b, .int .i64 c, .string os, .string ot], .agg #[.int .i64 e, .int .i64 0, .int .i64 m, .string t]] w
      fun e w' => e = .returned (.bool true) ∧ DS w' bD s ∧ Fr (S1 bD) w w' := by
  go_enter Try.func23, Try.ntmps23
  go_wp2_with fail
  go_ret
  exact ⟨rfl, (h.alloc _).alloc _, ((Fr.refl _ _).alloc _).alloc _⟩

theorem turn_other {w : World} {bD : Nat} {s : L.St} (h : DS w bD s) (kind a b c : Int) (os ot : ByteArray) (e n m : Int) (t : ByteArray) (k2 : kind ≠ 2) (k3 : kind ≠ 3) (k4 : kind ≠ 4) (k5 : kind ≠ 5) (k6 : kind ≠ 6) (k7 : kind ≠ 7) (k8 : kind ≠ 8) (k9 : kind ≠ 9) :
    Calls Try.prog 23 #[.pointer (some ⟨bD, 0, none⟩), .agg #[.int .i64 kind, .int .i64 a, .int .i64 b, .int .i64 c, .string os, .string ot], .agg #[.int .i64 e, .int .i64 n, .int .i64 m, .string t]] w
      fun e w' => e = .returned (.bool true) ∧ DS w' bD s ∧ Fr (S1 bD) w w' := by
  have j2 : (kind == 2) = false := beq_eq_false_iff_ne.2 k2
  have j3 : (kind == 3) = false := beq_eq_false_iff_ne.2 k3
  have j4 : (kind == 4) = false := beq_eq_false_iff_ne.2 k4
  have j5 : (kind == 5) = false := beq_eq_false_iff_ne.2 k5
  have j6 : (kind == 6) = false := beq_eq_false_iff_ne.2 k6
  have j7 : (kind == 7) = false := beq_eq_false_iff_ne.2 k7
  have j8 : (kind == 8) = false := beq_eq_false_iff_ne.2 k8
  have j9 : (kind == 9) = false := beq_eq_false_iff_ne.2 k9
  clear k2 k3 k4 k5 k6 k7 k8 k9
  go_enter Try.func23, Try.ntmps23
  go_wp2_with fail
  go_ret
  exact ⟨rfl, (h.alloc _).alloc _, ((Fr.refl _ _).alloc _).alloc _⟩

theorem turn_show {w : World} {bD : Nat} {s : L.St} (h : DS w bD s) (a b c : Int) (os ot : ByteArray) (e n m : Int) :
    Calls Try.prog 23 #[.pointer (some ⟨bD, 0, none⟩), .agg #[.int .i64 8, .int .i64 a, .int .i64 b, .int .i64 c, .string os, .string ot], .agg #[.int .i64 e, .int .i64 n, .int .i64 m, .string (L.bs (L.showL s))]] w
      fun e w' => e = .returned (.bool true) ∧ DS w' bD s ∧ Fr (S1 bD) w w' := by
  have H := hid h
  have hM := h.1.lt
  clear h
  go_enter Try.func23, Try.ntmps23
  go_wp2_with fail
  go_region_with (go_at_call 24; refine (shown_any (s := s) (DS.drewN ((H.out.alloc (.cells #[.int .i64 8, .int .i64 a, .int .i64 b, .int .i64 c, .string os, .string ot] 43)).alloc (.cells #[.int .i64 e, .int .i64 n, .int .i64 m, .string (L.bs (L.showL s))] 45)) 1)).mono ?_; rintro e w2 ⟨rfl, hf2⟩; have p3 := (ans_cells hM ((((Fr.refl (S1 bD) _).drewN 1)).trans (hf2.mono (fun _ _ f => f.elim)))).2.2; have p4 := p3.1; have HF := hid p3.2; clear p3)
  all_goals go_wp2_with fail
  all_goals go_ret
  all_goals exact ⟨rfl, (((H.out.alloc _).alloc _).drewN 1).fr hf2 (fun f => f), HF.out⟩

theorem turn_all {w : World} {bD : Nat} {s : L.St} (h : DS w bD s) (a b c : Int) (os ot : ByteArray) (e m : Int) (t : ByteArray) :
    Calls Try.prog 23 #[.pointer (some ⟨bD, 0, none⟩), .agg #[.int .i64 6, .int .i64 a, .int .i64 b, .int .i64 c, .string os, .string ot], .agg #[.int .i64 e, .int .i64 ((L.allTo 4 s).1 : Int), .int .i64 m, .string t]] w
      fun e w' => e = .returned (.bool true) ∧ DS w' bD (L.allTo 4 s).2 ∧ Fr (S1 bD) w w' := by
  have cc := h.1.c.c
  have hM := h.1.lt
  have H := hid h
  have HC := hid (allTo_cnt s)
  have hcn : (L.allTo 4 s).1 = s.cnt := allTo_cnt s
  rw [hcn]
  clear h hcn
  go_enter Try.func23, Try.ntmps23
  go_wp2_with fail
  go_loopw [8] (fun i wr => ∃ (k : Nat) (s1 : L.St), k ≤ 4 ∧ i = .int .i64 ((k : Int) - 1) ∧ DS wr bD s1 ∧ (L.allTo k s1).2 = (L.allTo 4 s).2 ∧ Fr (S1 bD) ((w.alloc (.cells #[.int .i64 6, .int .i64 a, .int .i64 b, .int .i64 c, .string os, .string ot] 43)).alloc (.cells #[.int .i64 e, .int .i64 (s.cnt : Int), .int .i64 m, .string t] 45)) wr) (fun i _ => (intOf i + 1).toNat)
  case atStart => exact ⟨4, s, by omega, rfl, (H.out.alloc _).alloc _, rfl, Fr.refl _ _⟩
  case round =>
    obtain ⟨k, s1, hk, rfl, hd, hc2, hf⟩ := hrel
    obtain ⟨p0, p1, p3, hfw⟩ := ans_cells hM hf
    have HD := hid hd
    have HF := hid hf
    have HFW := hid hfw
    have C2 := hid hc2
    clear hd hf hc2 hfw cc
    rcases k with _ | k
    · go_wp2_with fail
      go_ret
      have hc2 : s1 = (L.allTo 4 s).2 := C2.out
      refine ⟨?_, ?_, HFW.out⟩
      · simp
      · rw [← hc2]; exact HD.out
    · have e0 : ((k + 1 : Nat) : Int) - 1 = (k : Int) := by omega
      rw [e0]
      have hk0 : (0 : Int) ≤ (k : Int) := by omega
      have hk4 : (k : Int) < 4 := by omega
      have hkn : k < 4 := by omega
      have cm := (HD.out.1.m k hkn).c
      clear e0
      cases ho : s1.op k
      · have hb := hdl_ne_false ho
        have e1 : Hid (L.allTo (k + 1) s1 = L.allTo k s1) := by simp [Hid, L.allTo, ho]
        clear ho
        go_wp2_with fail
        have hc2 := C2.out
        rw [e1.out] at hc2
        exact ⟨⟨k, s1, by omega, rfl, HD.out, hc2, HF.out⟩, by simp [intOf]⟩
      · have hb := hdl_ne_true ho
        have e1 : Hid (L.allTo (k + 1) s1 = ((L.allTo k (L.give s1 k)).1 + 1, (L.allTo k (L.give s1 k)).2)) := by simp [Hid, L.allTo, ho]
        have HG := hid (dgive_ok HD.out k hkn ho)
        clear ho
        go_wp2_with fail
        refine HG.out.mono ?_
        rintro e w1 ⟨rfl, hd1, hf1⟩
        have HD1 := hid hd1
        clear hd1 HG
        go_wp2_with fail
        have hc2 := C2.out
        rw [e1.out] at hc2
        exact ⟨⟨k, L.give s1 k, by omega, rfl, HD1.out, hc2, HF.out.trans hf1⟩, by simp [intOf]⟩

/-- Turn: the ghost goes to the state behind the step, and the real side's answer is what it owes. -/
theorem turn_any {w : World} {bD : Nat} {s : L.St} (h : DS w bD s) (o : Stp) :
    Calls Try.prog 23 #[.pointer (some ⟨bD, 0, none⟩), o.val, doV s o] w fun e w' => e = .returned (.bool true) ∧ DS w' bD (doS s o) ∧ Fr (S1 bD) w w' := by
  obtain ⟨kind, a, b, c, os, ot⟩ := o
  simp only [Stp.val, doV, ansV]
  by_cases k2 : kind = 2
  · subst k2
    simp only [doE, doN, doM, doT, doS]
    exact turn_clear h a b c os ot _ _ _ _
  by_cases k3 : kind = 3
  · subst k3
    have hV : doE s ⟨3, a, b, c, os, ot⟩ = (L.acq s a).2.1 ∧ doN s ⟨3, a, b, c, os, ot⟩ = (L.acq s a).1 ∧ doS s ⟨3, a, b, c, os, ot⟩ = (L.acq s a).2.2 := by simp [doE, doN, doS]
    rw [hV.1, hV.2.1, hV.2.2]
    by_cases ha : 0 ≤ a ∧ a < 4
    · obtain ⟨x, rfl⟩ := Int.eq_ofNat_of_zero_le ha.1
      cases ho : s.op x
      · have e1 : L.acq s (x : Int) = ((x : Int) + 4 * (s.gen x : Int), 0, L.take s x) := by unfold L.acq; rw [if_pos ha]; simp [ho]
        rw [e1]
        exact turn_acq_free h x (by omega) ho b c os ot _ _
      · have e1 : L.acq s (x : Int) = (0, 4, s) := by unfold L.acq; rw [if_pos ha]; simp [ho]
        rw [e1]
        exact turn_acq_held h x (by omega) ho b c os ot _ _
    · have e1 : L.acq s a = (0, 2, s) := by unfold L.acq; rw [if_neg ha]
      rw [e1]
      exact turn_acq_bad h a ha b c os ot _ _
  by_cases k4 : kind = 4
  · subst k4
    have hV : doE s ⟨4, a, b, c, os, ot⟩ = (L.rel s a).1 ∧ doS s ⟨4, a, b, c, os, ot⟩ = (L.rel s a).2 := by simp [doE, doS]
    rw [hV.1, hV.2]
    by_cases ha : 0 ≤ a ∧ a < 16
    · obtain ⟨x, rfl⟩ := Int.eq_ofNat_of_zero_le ha.1
      have hm : ((x : Int) % 4).toNat = x % 4 := by omega
      by_cases ho : s.hdl (x % 4) = (x : Int)
      · have e1 : L.rel s (x : Int) = (0, L.give s (x % 4)) := by unfold L.rel; rw [if_pos ha, hm, if_pos ho]
        rw [e1]
        exact turn_rel_ok h x (x % 4) (by omega) rfl ho b c os ot _ _ _
      · have e1 : L.rel s (x : Int) = (5, s) := by unfold L.rel; rw [if_pos ha, hm, if_neg ho]
        rw [e1]
        exact turn_rel_stale h x (x % 4) (by omega) rfl ho b c os ot _ _ _
    · have e1 : L.rel s a = (2, s) := by unfold L.rel; rw [if_neg ha]
      rw [e1]
      exact turn_rel_bad h a ha b c os ot _ _ _
  by_cases k5 : kind = 5
  · subst k5
    have hV : doE s ⟨5, a, b, c, os, ot⟩ = (L.pair s a b).2.2.1 ∧ doN s ⟨5, a, b, c, os, ot⟩ = (L.pair s a b).1 ∧ doM s ⟨5, a, b, c, os, ot⟩ = (L.pair s a b).2.1 ∧ doT s ⟨5, a, b, c, os, ot⟩ = [] ∧ doS s ⟨5, a, b, c, os, ot⟩ = (L.pair s a b).2.2.2 := by simp [doE, doN, doM, doT, doS]
    rw [hV.1, hV.2.1, hV.2.2.1, hV.2.2.2.1, hV.2.2.2.2]
    exact turn_pair h a b c os ot
  by_cases k6 : kind = 6
  · subst k6
    have hV : doN s ⟨6, a, b, c, os, ot⟩ = ((L.allTo 4 s).1 : Int) ∧ doS s ⟨6, a, b, c, os, ot⟩ = (L.allTo 4 s).2 := by simp [doN, doS]
    rw [hV.1, hV.2]
    exact turn_all h a b c os ot _ _ _
  by_cases k7 : kind = 7
  · subst k7
    have hV : doN s ⟨7, a, b, c, os, ot⟩ = (s.cnt : Int) ∧ doS s ⟨7, a, b, c, os, ot⟩ = s := by simp [doN, doS]
    rw [hV.1, hV.2]
    exact turn_held h a b c os ot _ _ _
  by_cases k8 : kind = 8
  · subst k8
    have hV : doT s ⟨8, a, b, c, os, ot⟩ = L.showL s ∧ doS s ⟨8, a, b, c, os, ot⟩ = s := by simp [doT, doS]
    rw [hV.1, hV.2]
    exact turn_show h a b c os ot _ _ _
  by_cases k9 : kind = 9
  · subst k9
    have hV : doN s ⟨9, a, b, c, os, ot⟩ = 0 ∧ doS s ⟨9, a, b, c, os, ot⟩ = s := by simp [doN, doS]
    rw [hV.1, hV.2]
    exact turn_check h a b c os ot _ _ _
  have hD : doS s ⟨kind, a, b, c, os, ot⟩ = s := by simp [doS, k2, k3, k4, k5, k6]
  rw [hD]
  exact turn_other h kind a b c os ot _ _ _ _ k2 k3 k4 k5 k6 k7 k8 k9
end Go.Proofs.Qxb6500454a
