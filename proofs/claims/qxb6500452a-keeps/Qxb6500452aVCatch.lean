/- step, catch. -/
import Derived.Test.Qxb6500452aVTx
import Derived.Recover
namespace Go.Proofs.Qxb6500452a
open Go Go.RowKit
set_option maxRecDepth 100000
set_option maxHeartbeats 1600000
set_option linter.unusedSimpArgs false
set_option linter.unusedVariables false

/-- The layer's own panic value. -/
def abortV (i e : Int) : Value := .iface 131 (.agg #[.int .i64 i, .int .i64 e])

theorem step_any {w : World} {b : LB} {bal : Nat → Int} {jr : List (Nat × Int)} {un pT : Nat} (h : LV w b bal jr un) (ht : At w pT 0 (.pointer (some ⟨b.D, 0, none⟩))) (hT : ¬ S3L b pT) {f t : Nat} (hf : f < 4) (htt : t < 4) (hne : f ≠ t) {a : Int} (a1 : 1 ≤ a) (a2 : a ≤ 999)
    (hb : ∀ k, k < 4 → 0 ≤ bal k ∧ bal k ≤ 250) (hj : jr.length ≤ 4) (i : Int) :
    Calls Try.prog 90 #[.pointer (some ⟨b.D, 0, none⟩), .pointer (some ⟨pT, 0, none⟩), .int .i64 i, .agg #[.int .i64 (f : Int), .int .i64 (t : Int), .int .i64 a]] w fun e w' =>
      e = (if payE bal f t a = 0 then .returned (.tuple #[]) else .panicked [{ v := abortV i (payE bal f t a), recovered := false }]) ∧ LV w' b (payB bal f t a) (payJ bal f t a jr) un ∧ Fr (S3L b) w w' := by
  have hA := fun W (hW : Fr (fun _ => False) w W) => pay_any (h.fr hW (fun _ _ h => h)) (ht.fr hW (fun h => h)) hT hf htt hne a1 a2 hb hj
  have HA := hid hA
  have fa : ∀ c, Fr (fun _ => False) w (w.alloc c) := fun c => (Fr.refl _ _).alloc _
  clear hA h ht hb
  by_cases hE : payE bal f t a = 0
  · rw [if_pos hE]
    have HE := hid hE
    clear hE
    go_enter Try.func90, Try.ntmps90
    go_wp2_with (first
      | (go_at_call 88; refine (HA.out _ (fa _)).mono ?_; rintro e w1 ⟨rfl, lv, f1⟩; rw [HE.out])
      | fail)
    go_end0
    exact ⟨rfl, lv, ((fa _).mono (S' := S3L b) (fun _ _ h => h.elim)).trans f1⟩
  · rw [if_neg hE]
    have hEb : (payE bal f t a != 0) = true := by simp [hE]
    clear hE
    go_enter Try.func90, Try.ntmps90
    go_wp2_with (first
      | (go_at_call 88; refine (HA.out _ (fa _)).mono ?_; rintro e w1 ⟨rfl, lv, f1⟩)
      | fail)
    exact ⟨rfl, rfl, lv, ((fa _).mono (S' := S3L b) (fun _ _ h => h.elim)).trans f1⟩

theorem catch_idle (pD pn pe : Addr) (w : World) :
    CallsD Try.prog 80 #[.pointer (some pD), .pointer (some pn), .pointer (some pe)] .returning w fun e u' w' => e = .returned (.tuple #[]) ∧ u' = .returning ∧ w' = w := by
  refine callsD_of_wpS Try.func80 rfl fun c₀ cs hu => ?_
  apply wpS_seq
  apply wpS_region
  simp [wpOpsS, go_sem, recoverD, hu, Try.ntmps80, Exit.thenS]
  simp only [Array.replicate_succ, Array.replicate_zero, List.push_toArray, List.append_toArray, List.nil_append, List.cons_append, List.setIfInBounds_toArray, List.set_cons_zero, List.set_cons_succ]
  refine wpS_of_wp ?_
  go_wp2_with fail
  cases c₀
  simp_all [bodyPostS, results, Try.results80]

theorem ta_abort (v : Value) (w : World) : (Instr.typeAssert (.iface 131 v) 20 131 true).run Try.prog w = .ok (.tuple #[v, .bool true]) w := by kernel_rfl

theorem catch_abort {w : World} (pD : Addr) {qn qe : Nat} (i e : Int) (older : List PanicEntry) {x y : Value} (hn : At w qn 0 x) (he : At w qe 0 y) (hne : qn ≠ qe) :
    CallsD Try.prog 80 #[.pointer (some pD), .pointer (some ⟨qn, 0, none⟩), .pointer (some ⟨qe, 0, none⟩)] (.panicking ({ v := abortV i e, recovered := false } :: older)) w fun e' u' w' =>
      e' = .returned (.tuple #[]) ∧ u' = .panicking ({ v := abortV i e, recovered := true } :: older) ∧ At w' qn 0 (.int .i64 i) ∧ At w' qe 0 (.int .i64 e) ∧ Fr (fun k => k = qn ∨ k = qe) w w' := by
  have c0 := hn.c
  have x0 := hn.f
  have c1 := he.c
  have x1 := he.f
  have l0 := hn.lt
  have l1 := he.lt
  have HN := hid hn
  have HE := hid he
  have hta := ta_abort
  unfold abortV
  refine callsD_of_wpS Try.func80 rfl fun c₀ cs hu => ?_
  clear hn he
  apply wpS_seq
  apply wpS_region
  simp [wpOpsS, go_sem, recoverD, hu, Try.ntmps80, Exit.thenS]
  simp only [Array.replicate_succ, Array.replicate_zero, List.push_toArray, List.append_toArray, List.nil_append, List.cons_append, List.setIfInBounds_toArray, List.set_cons_zero, List.set_cons_succ]
  refine wpS_of_wp ?_
  go_wp2_with fail
  go_region
  go_wp2_with fail
  refine ⟨rfl, _, rfl, .tuple #[], by simp [results, Try.results80], rfl, rfl, ?_, ?_, ?_⟩
  · exact (((HN.out.same _).other (fun e _ => hne e.symm) _).alloc _).drew
  · exact (((HE.out.other (fun e _ => hne e) _).same _).alloc _).drew
  · exact ((((Fr.refl (fun k => k = qn ∨ k = qe) w).setCell (p := ⟨qn, 0, none⟩) (fun _ => .inl rfl) _).setCell (p := ⟨qe, 0, none⟩) (fun _ => .inr rfl) _).alloc _).drew

/-- A deferred Release of the batch: whatever the frame below does. -/
theorem release_d {w : World} {bT bC bR : Nat} {s : L.St} (h : RT w bT bC bR s) (k : Int) (u : FrameMode) :
    CallsD Try.prog 50 #[.pointer (some ⟨bT, 0, none⟩), .int .i64 k] u w fun e u' w' => u' = u ∧ (e = .returned (.int .i64 (L.rel s k).1) ∧
      RT w' bT bC bR (L.rel s k).2 ∧ Fr (S3 bT bC bR) w w') := by
  by_cases hg : 0 ≤ k ∧ k < 16
  · obtain ⟨m, rfl⟩ := Int.eq_ofNat_of_zero_le hg.1
    obtain ⟨n, hmn⟩ : ∃ n, n = m % 4 := ⟨_, rfl⟩
    have hn : n < 4 := by omega
    have hm4 : ((m : Int) % 4) = (n : Int) := by omega
    have hk0 := hg.1
    have hk1 := hg.2
    have hn0 : (0 : Int) ≤ (n : Int) := by omega
    have hn1 : (n : Int) < 4 := by omega
    have t0 := h.t0.c
    have t1 := h.t1.c
    have f1 := h.t1.f
    have co := (h.co n hn).c
    have cf := (h.co n hn).f
    have cg := (h.cg n hn).c
    have cgf := (h.cg n hn).f
    have hne := h.n1
    have hne' := Ne.symm h.n1
    have hgl := h.ok.gen n hn
    have hgl' : (s.gen n : Int) < 4 := by omega
    have hcl := L.cnt_le s
    have hcl' : (s.cnt : Int) ≤ 4 := by omega
    have hN : ((m : Int) % 4).toNat = n := by omega
    by_cases ho : s.hdl n = (m : Int)
    · have HF : Hid (L.rel s m = (0, L.give s n)) := by unfold Hid L.rel; rw [if_pos hg, hN, if_pos ho]
      have hop : s.op n = true := L.op_of_hdl hk0 ho
      have H : Hid (RT w bT bC bR s) := h
      have HO : Hid (s.op n = true) := hop
      rw [ho] at co
      clear h hop ho hmn hN
      go_enter_d Try.func50, Try.ntmps50
      go_wp2_with fail
      go_region
      go_wp2_with (go_at_call 74; refine (note_any (H.out.given hn HO.out).drew 82 n hn).mono ?_; rintro e w1 ⟨rfl, hr, hf⟩)
      go_ret
      rw [HF.out]
      exact ⟨rfl, hr, ((((Fr.refl _ _).setCell (fun _ => by simp [S3]) _).setCell (fun _ => by simp [S3]) _).setCell (fun _ => by simp [S3]) _).drew.trans hf⟩
    · have HF : Hid (L.rel s m = (5, s)) := by unfold Hid L.rel; rw [if_pos hg, hN, if_neg ho]
      have H : Hid (RT w bT bC bR s) := h
      have hb : (s.hdl n != (m : Int)) = true := by simpa using ho
      clear h ho hmn hN
      go_enter_d Try.func50, Try.ntmps50
      go_wp2_with fail
      go_ret
      rw [HF.out]
      exact ⟨rfl, H.out, Fr.refl _ _⟩
  · have HF : Hid (L.rel s k = (2, s)) := by unfold Hid L.rel; rw [if_neg hg]
    by_cases hlt : k < 0
    · go_enter_d Try.func50, Try.ntmps50
      go_wp2_with fail
      go_ret
      rw [HF.out]
      exact ⟨rfl, h, Fr.refl _ _⟩
    · have h0 : 0 ≤ k := by omega
      have h1 : 16 ≤ k := by omega
      go_enter_d Try.func50, Try.ntmps50
      go_wp2_with fail
      go_ret
      rw [HF.out]
      exact ⟨rfl, h, Fr.refl _ _⟩

end Go.Proofs.Qxb6500452a
