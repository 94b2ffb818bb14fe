/- The gate: count, the two deferred literals. -/
import Derived.Test.Qxb6500452aGRun2
namespace Go.Proofs.Qxb6500452a
open Go Go.RowKit
set_option maxRecDepth 100000
set_option maxHeartbeats 1600000
set_option linter.unusedSimpArgs false
set_option linter.unusedVariables false

structure Cts where
  ok : Nat
  bad : Nat
  err : Nat
  inn : Nat
structure GT (w : World) (G : Nat) (b : LB) (s : Led) (c : Cts) : Prop where
  r : LR w b s
  g0 : At w G 0 (.pointer (some ⟨b.D, 0, none⟩))
  g1 : At w G 1 (.int .i64 (c.ok : Int))
  g2 : At w G 2 (.int .i64 (c.bad : Int))
  g3 : At w G 3 (.int .i64 (c.err : Int))
  g4 : At w G 4 (.int .i64 (c.inn : Int))
  ng : ¬ SL b G
  cl : c.ok ≤ 99 ∧ c.bad ≤ 99 ∧ c.err ≤ 99 ∧ c.inn ≤ 99
def SG (b : LB) (G : Nat) : Nat → Prop := fun i => SL b i ∨ i = G
theorem GT.fr {w w' : World} {G : Nat} {b : LB} {s : Led} {c : Cts} (h : GT w G b s c) {S : Nat → Prop} (hf : Fr S w w') (hn : ∀ i, SG b G i → ¬ S i) : GT w' G b s c :=
  ⟨h.r.fr hf (fun i c => hn i (.inl c)), h.g0.fr hf (hn _ (.inr rfl)), h.g1.fr hf (hn _ (.inr rfl)), h.g2.fr hf (hn _ (.inr rfl)), h.g3.fr hf (hn _ (.inr rfl)), h.g4.fr hf (hn _ (.inr rfl)), h.ng, h.cl⟩
theorem GT.lt {w : World} {G : Nat} {b : LB} {s : Led} {c : Cts} (h : GT w G b s c) : ∀ i, SG b G i → i < w.heap.size := by
  rintro i (c | c)
  · exact h.r.lt i c
  · rw [c]; exact h.g0.lt
/-- Behind a call of the ledger. -/
theorem GT.led {w w' : World} {G : Nat} {b : LB} {s s' : Led} {c : Cts} (h : GT w G b s c) (r : LR w' b s') (hf : Fr (SL b) w w') : GT w' G b s' c :=
  ⟨r, h.g0.fr hf h.ng, h.g1.fr hf h.ng, h.g2.fr hf h.ng, h.g3.fr hf h.ng, h.g4.fr hf h.ng, h.ng, h.cl⟩

def cntC (c : Cts) (e : Int) : Cts := if e = 0 then ⟨bump c.ok, c.bad, c.err, c.inn⟩ else if e = 1 ∨ e = 8 then ⟨c.ok, bump c.bad, c.err, c.inn⟩ else if e = 9 then ⟨c.ok, c.bad, c.err, bump c.inn⟩ else ⟨c.ok, c.bad, bump c.err, c.inn⟩
theorem bump99 {n : Nat} (h : n ≤ 99) : bump n ≤ 99 := by unfold bump; split <;> omega

theorem count_any {w : World} {G : Nat} {b : LB} {s : Led} {c : Cts} (h : GT w G b s c) (e : Int) : Calls Try.prog 30 #[.pointer (some ⟨G, 0, none⟩), .int .i64 e] w fun x w' => x = .returned (.tuple #[]) ∧ GT w' G b s (cntC c e) ∧ Fr (fun i => i = G) w w' := by
  have H := hid h
  obtain ⟨l1, l2, l3, l4⟩ := h.cl
  have c1 := h.g1.c
  have c2 := h.g2.c
  have c3 := h.g3.c
  have c4 := h.g4.c
  have x1 := h.g1.f
  have x2 := h.g2.f
  have x3 := h.g3.f
  have x4 := h.g4.f
  clear h
  have hF : ∀ o u, Fr (fun i => i = G) w (w.setCell ⟨G, o, none⟩ u) := fun o u => (Fr.refl (fun i => i = G) w).setCell (p := ⟨G, o, none⟩) (fun _ => rfl) u
  have HR : ∀ o u, Hid (LR (w.setCell ⟨G, o, none⟩ u) b s) := fun o u => H.out.r.fr (hF o u) (fun i c e => H.out.ng (e ▸ c))
  by_cases h0 : e = 0
  · subst h0
    have hC : cntC c 0 = ⟨bump c.ok, c.bad, c.err, c.inn⟩ := by simp [cntC]
    rw [hC]
    clear hC
    go_enter Try.func30, Try.ntmps30
    go_wp2_with (first | (go_at_call 51; refine (bump_any _ _).mono ?_; rintro x y ⟨rfl, hy⟩; obtain rfl := hy.symm) | fail)
    go_end0
    exact ⟨rfl, ⟨(HR _ _).out, H.out.g0.other (by omega) _, H.out.g1.same _, H.out.g2.other (by omega) _, H.out.g3.other (by omega) _, H.out.g4.other (by omega) _, H.out.ng, bump99 l1, l2, l3, l4⟩, hF _ _⟩
  have b0 : (e == 0) = false := by simp [h0]
  by_cases h1 : e = 1
  · subst h1
    have hC : cntC c 1 = ⟨c.ok, bump c.bad, c.err, c.inn⟩ := by simp [cntC]
    rw [hC]
    clear hC b0
    go_enter Try.func30, Try.ntmps30
    go_wp2_with (first | (go_at_call 51; refine (bump_any _ _).mono ?_; rintro x y ⟨rfl, hy⟩; obtain rfl := hy.symm) | fail)
    go_end0
    exact ⟨rfl, ⟨(HR _ _).out, H.out.g0.other (by omega) _, H.out.g1.other (by omega) _, H.out.g2.same _, H.out.g3.other (by omega) _, H.out.g4.other (by omega) _, H.out.ng, l1, bump99 l2, l3, l4⟩, hF _ _⟩
  have b1 : (e == 1) = false := by simp [h1]
  by_cases h8 : e = 8
  · subst h8
    have hC : cntC c 8 = ⟨c.ok, bump c.bad, c.err, c.inn⟩ := by simp [cntC]
    rw [hC]
    clear hC b0 b1
    go_enter Try.func30, Try.ntmps30
    go_wp2_with (first | (go_at_call 51; refine (bump_any _ _).mono ?_; rintro x y ⟨rfl, hy⟩; obtain rfl := hy.symm) | fail)
    go_end0
    exact ⟨rfl, ⟨(HR _ _).out, H.out.g0.other (by omega) _, H.out.g1.other (by omega) _, H.out.g2.same _, H.out.g3.other (by omega) _, H.out.g4.other (by omega) _, H.out.ng, l1, bump99 l2, l3, l4⟩, hF _ _⟩
  have b8 : (e == 8) = false := by simp [h8]
  by_cases h9 : e = 9
  · subst h9
    have hC : cntC c 9 = ⟨c.ok, c.bad, c.err, bump c.inn⟩ := by simp [cntC]
    rw [hC]
    clear hC b0 b1 b8
    go_enter Try.func30, Try.ntmps30
    go_wp2_with (first | (go_at_call 51; refine (bump_any _ _).mono ?_; rintro x y ⟨rfl, hy⟩; obtain rfl := hy.symm) | fail)
    go_end0
    exact ⟨rfl, ⟨(HR _ _).out, H.out.g0.other (by omega) _, H.out.g1.other (by omega) _, H.out.g2.other (by omega) _, H.out.g3.other (by omega) _, H.out.g4.same _, H.out.ng, l1, l2, l3, bump99 l4⟩, hF _ _⟩
  have b9 : (e == 9) = false := by simp [h9]
  have hC : cntC c e = ⟨c.ok, c.bad, bump c.err, c.inn⟩ := by simp [cntC, h0, h1, h8, h9]
  rw [hC]
  clear hC h0 h1 h8 h9
  go_enter Try.func30, Try.ntmps30
  go_wp2_with (first | (go_at_call 51; refine (bump_any _ _).mono ?_; rintro x y ⟨rfl, hy⟩; obtain rfl := hy.symm) | fail)
  go_end0
  exact ⟨rfl, ⟨(HR _ _).out, H.out.g0.other (by omega) _, H.out.g1.other (by omega) _, H.out.g2.other (by omega) _, H.out.g3.same _, H.out.g4.other (by omega) _, H.out.ng, l1, l2, bump99 l3, l4⟩, hF _ _⟩

/-- The deferred counter, whatever the frame below does. -/
theorem cnt_d {w : World} {G pg pe : Nat} {b : LB} {s : Led} {c : Cts} (h : GT w G b s c) (ag : At w pg 0 (.pointer (some ⟨G, 0, none⟩))) {e : Int} (ae : At w pe 0 (.int .i64 e)) (u : FrameMode) :
    CallsD Try.prog 29 #[.pointer (some ⟨pg, 0, none⟩), .pointer (some ⟨pe, 0, none⟩)] u w fun x u' w' => u' = u ∧ (x = .returned (.tuple #[]) ∧ GT w' G b s (cntC c e) ∧ Fr (fun i => i = G) w w') := by
  have c0 := ag.c
  have c1 := ae.c
  have HR := hid (count_any h e)
  clear h ag ae
  go_enter_d Try.func29, Try.ntmps29
  go_wp2_with fail
  refine HR.out.mono ?_
  rintro x w1 ⟨rfl, lv, f1⟩
  go_wp2_with fail
  go_end0
  exact ⟨rfl, lv, f1⟩

theorem neq8 (x : Value) (w : World) : (binOp BinOp.neq 20 (.iface 8 x) .nilIface).run Try.prog w = .ok (.bool true) w := by kernel_rfl
theorem neq10 (x : Value) (w : World) : (binOp BinOp.neq 20 (.iface 10 x) .nilIface).run Try.prog w = .ok (.bool true) w := by kernel_rfl
theorem neqS (x : Value) (w : World) : (binOp BinOp.neq 20 (.iface 53 x) .nilIface).run Try.prog w = .ok (.bool true) w := by kernel_rfl
theorem eqN (w : World) : (binOp BinOp.neq 20 .nilIface .nilIface).run Try.prog w = .ok (.bool false) w := by kernel_rfl
theorem ta8 (v : Value) (w : World) : (Instr.typeAssert (.iface 8 v) 20 53 true).run Try.prog w = .ok (.tuple #[.agg #[.int .i64 0], .bool false]) w := by kernel_rfl
theorem ta10 (v : Value) (w : World) : (Instr.typeAssert (.iface 10 v) 20 53 true).run Try.prog w = .ok (.tuple #[.agg #[.int .i64 0], .bool false]) w := by kernel_rfl
theorem taS (v : Value) (w : World) : (Instr.typeAssert (.iface 53 v) 20 53 true).run Try.prog w = .ok (.tuple #[v, .bool true]) w := by kernel_rfl

theorem res_idle (pa pe : Addr) (w : World) :
    CallsD Try.prog 31 #[.pointer (some pa), .pointer (some pe)] .returning w fun e u' w' => e = .returned (.tuple #[]) ∧ u' = .returning ∧ w' = w := by
  have hq := eqN
  refine callsD_of_wpS Try.func31 rfl fun c₀ cs hu => ?_
  apply wpS_seq
  apply wpS_region
  simp [wpOpsS, go_sem, recoverD, hu, Try.ntmps31, Exit.thenS]
  simp only [Array.replicate_succ, Array.replicate_zero, List.push_toArray, List.append_toArray, List.nil_append, List.cons_append, List.setIfInBounds_toArray, List.set_cons_zero, List.set_cons_succ]
  refine wpS_of_wp ?_
  go_wp2_with fail
  cases c₀
  simp_all [bodyPostS, results, Try.results31]

theorem res_out {w : World} {qa qe : Nat} {x y : Value} (ha : At w qa 0 x) (he : At w qe 0 y) (hne : qa ≠ qe) {t : TypeId} (ht : t = 8 ∨ t = 10) (v : Value) (older : List PanicEntry) :
    CallsD Try.prog 31 #[.pointer (some ⟨qa, 0, none⟩), .pointer (some ⟨qe, 0, none⟩)] (.panicking ({ v := .iface t v, recovered := false } :: older)) w fun e' u' w' =>
      e' = .returned (.tuple #[]) ∧ u' = .panicking ({ v := .iface t v, recovered := true } :: older) ∧ At w' qa 0 (.string ⟨#[]⟩) ∧ At w' qe 0 (.int .i64 9) ∧ Fr (fun k => k = qa ∨ k = qe) w w' := by
  have c0 := ha.c
  have x0 := ha.f
  have c1 := he.c
  have x1 := he.f
  have HA := hid ha
  have HE := hid he
  clear ha he
  have hne' : qe ≠ qa := fun e => hne e.symm
  rcases ht with rfl | rfl
  · have hq := neq8 v
    have hta := ta8 v
    refine callsD_of_wpS Try.func31 rfl fun c₀ cs hu => ?_
    apply wpS_seq
    apply wpS_region
    simp [wpOpsS, go_sem, recoverD, hu, Try.ntmps31, Exit.thenS]
    simp only [Array.replicate_succ, Array.replicate_zero, List.push_toArray, List.append_toArray, List.nil_append, List.cons_append, List.setIfInBounds_toArray, List.set_cons_zero, List.set_cons_succ]
    refine wpS_of_wp ?_
    go_wp2_with fail
    refine ⟨rfl, _, rfl, .tuple #[], by simp [results, Try.results31], rfl, rfl, ?_, ?_, ?_⟩
    · exact (HA.out.same _).other (fun e _ => hne e.symm) _
    · exact (HE.out.other (fun e _ => hne e) _).same _
    · exact ((Fr.refl (fun k => k = qa ∨ k = qe) w).setCell (p := ⟨qa, 0, none⟩) (fun _ => .inl rfl) _).setCell (p := ⟨qe, 0, none⟩) (fun _ => .inr rfl) _
  · have hq := neq10 v
    have hta := ta10 v
    refine callsD_of_wpS Try.func31 rfl fun c₀ cs hu => ?_
    apply wpS_seq
    apply wpS_region
    simp [wpOpsS, go_sem, recoverD, hu, Try.ntmps31, Exit.thenS]
    simp only [Array.replicate_succ, Array.replicate_zero, List.push_toArray, List.append_toArray, List.nil_append, List.cons_append, List.setIfInBounds_toArray, List.set_cons_zero, List.set_cons_succ]
    refine wpS_of_wp ?_
    go_wp2_with fail
    refine ⟨rfl, _, rfl, .tuple #[], by simp [results, Try.results31], rfl, rfl, ?_, ?_, ?_⟩
    · exact (HA.out.same _).other (fun e _ => hne e.symm) _
    · exact (HE.out.other (fun e _ => hne e) _).same _
    · exact ((Fr.refl (fun k => k = qa ∨ k = qe) w).setCell (p := ⟨qa, 0, none⟩) (fun _ => .inl rfl) _).setCell (p := ⟨qe, 0, none⟩) (fun _ => .inr rfl) _

end Go.Proofs.Qxb6500452a
