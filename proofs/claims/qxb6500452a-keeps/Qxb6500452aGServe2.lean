/- The gate: Serve. -/
import Derived.Test.Qxb6500452aGServe
namespace Go.Proofs.Qxb6500452a
open Go Go.RowKit
set_option maxRecDepth 100000
set_option maxHeartbeats 1600000
set_option linter.unusedSimpArgs false
set_option linter.unusedVariables false

def atA (q : Nat) : ByteArray := ⟨#[64]⟩ ++ Ia.bs (Ia.itoa (q : Int))
theorem res_syn {w : World} {qa qe : Nat} {x y : Value} (ha : At w qa 0 x) (he : At w qe 0 y) (hne : qa ≠ qe) {q : Nat} (hq : q ≤ 20) (older : List PanicEntry) :
    CallsD Try.prog 31 #[.pointer (some ⟨qa, 0, none⟩), .pointer (some ⟨qe, 0, none⟩)] (.panicking ({ v := synV q, recovered := false } :: older)) w fun e' u' w' =>
      e' = .returned (.tuple #[]) ∧ u' = .panicking ({ v := synV q, recovered := true } :: older) ∧ At w' qa 0 (.string (atA q)) ∧ At w' qe 0 (.int .i64 8) ∧ Fr (fun k => k = qa ∨ k = qe) w w' := by
  have hla := ha.lt
  have hle := he.lt
  have HA := hid ha
  have HE := hid he
  clear ha he
  have hqI : (q : Int) ≤ 20 := by omega
  have hq0 : (0 : Int) ≤ (q : Int) := by omega
  have hz : (Ia.bs (Ia.itoa (q : Int))).size ≤ 21 := by rw [Ia.bs_size]; exact Ia.itoa_len _
  unfold synV
  have hqq := neqS (.agg #[.int .i64 (q : Int)])
  have hta := taS (.agg #[.int .i64 (q : Int)])
  refine callsD_of_wpS Try.func31 rfl fun c₀ cs hu => ?_
  apply wpS_seq
  apply wpS_region
  simp [wpOpsS, go_sem, recoverD, hu, Try.ntmps31, Exit.thenS]
  simp only [Array.replicate_succ, Array.replicate_zero, List.push_toArray, List.append_toArray, List.nil_append, List.cons_append, List.setIfInBounds_toArray, List.set_cons_zero, List.set_cons_succ]
  refine wpS_of_wp ?_
  go_wp2_with fail
  refine (Ia.itoa_any (q : Int) _ (by omega) (by omega)).mono ?_
  rintro e w1 ⟨rfl, f1⟩
  have fa := ((Fr.refl (fun _ => False) w).alloc (.cells #[.int .i64 (q : Int)] 53)).trans f1
  have A1 := hid (HA.out.fr fa (fun h => h))
  have E1 := hid (HE.out.fr fa (fun h => h))
  have F1 := hid fa
  have c0 := A1.out.c
  have x0 := A1.out.f
  have c1 := E1.out.c
  have x1 := E1.out.f
  have hne' : qe ≠ qa := fun e => hne e.symm
  clear fa f1
  go_wp2_with fail
  refine ⟨rfl, _, rfl, .tuple #[], by simp [results, Try.results31], rfl, rfl, ?_, ?_, ?_⟩
  · exact (A1.out.same _).other (fun e _ => hne e.symm) _
  · exact (E1.out.other (fun e _ => hne e) _).same _
  · exact ((F1.out.mono (S' := fun k => k = qa ∨ k = qe) (fun _ _ h => h.elim)).setCell (p := ⟨qa, 0, none⟩) (fun _ => .inl rfl) _).setCell (p := ⟨qe, 0, none⟩) (fun _ => .inr rfl) _

def cntD (pg pe : Nat) : Deferred := { target := .fn (.func 29) #[.pointer (some ⟨pg, 0, none⟩), .pointer (some ⟨pe, 0, none⟩)], args := #[] }
def resD (pa pe : Nat) : Deferred := { target := .fn (.func 31) #[.pointer (some ⟨pa, 0, none⟩), .pointer (some ⟨pe, 0, none⟩)], args := #[] }

/-- Leaving Serve: the counter last. -/
theorem leave_cnt {fn : Func} {tmps : Array Value} {R : Ending → World → Prop} {w : World} {G pg pa pe : Nat} {b : LB} {s : Led} {c : Cts} {e : Int} {a : ByteArray} (hres : fn.results = #[.cell 4 9, .cell 5 34]) (h4 : tmps.getD 4 undef = .pointer (some ⟨pa, 0, none⟩)) (h5 : tmps.getD 5 undef = .pointer (some ⟨pe, 0, none⟩))
    (h : GT w G b s c) (ag : At w pg 0 (.pointer (some ⟨G, 0, none⟩))) (aa : At w pa 0 (.string a)) (ae : At w pe 0 (.int .i64 e)) (na : pa ≠ G) (ne : pe ≠ G)
    (hR : ∀ w', GT w' G b s (cntC c e) → Fr (fun i => i = G) w w' → R (.returned (.tuple #[.string a, .int .i64 e])) w') : Leaves Try.prog fn tmps R [cntD pg pe] .returning w := by
  have c4 : tmps[4]?.getD undef = .pointer (some ⟨pa, 0, none⟩) := by simpa using h4
  have c5 : tmps[5]?.getD undef = .pointer (some ⟨pe, 0, none⟩) := by simpa using h5
  refine leaves_cons (f := 29) (args := #[.pointer (some ⟨pg, 0, none⟩), .pointer (some ⟨pe, 0, none⟩)]) (by simp) (by simp [go_sem]) ?_
  refine (cnt_d h ag ae .returning).mono ?_
  rintro e1 u w2 ⟨rfl, rfl, g2, f2⟩
  have q4 := (aa.fr f2 na).c
  have q5 := (ae.fr f2 ne).c
  exact ⟨.tuple #[.string a, .int .i64 e], by simp [results, hres, go_sem, c4, c5, q4, q5], hR _ g2 f2⟩
theorem leave_idle {fn : Func} {tmps : Array Value} {R : Ending → World → Prop} {w : World} {pg pa pe : Nat} (h : Leaves Try.prog fn tmps R [cntD pg pe] .returning w) : Leaves Try.prog fn tmps R [resD pa pe, cntD pg pe] .returning w := by
  refine leaves_cons (f := 31) (args := #[.pointer (some ⟨pa, 0, none⟩), .pointer (some ⟨pe, 0, none⟩)]) (by simp) (by simp [go_sem]) ?_
  refine (res_idle _ _ w).mono ?_
  rintro e1 u w3 ⟨rfl, rfl, rfl⟩
  exact h
theorem leave_out {fn : Func} {tmps : Array Value} {R : Ending → World → Prop} {w : World} {pg pa pe : Nat} {x y : Value} (ha : At w pa 0 x) (he : At w pe 0 y) (hne : pa ≠ pe) {t : TypeId} (ht : t = 8 ∨ t = 10) {v : Value} {older : List PanicEntry} (ho : older.dropWhile (!·.goexit) = [])
    (h : ∀ w', At w' pa 0 (.string ⟨#[]⟩) → At w' pe 0 (.int .i64 9) → Fr (fun k => k = pa ∨ k = pe) w w' → Leaves Try.prog fn tmps R [cntD pg pe] .returning w') : Leaves Try.prog fn tmps R [resD pa pe, cntD pg pe] (.panicking ({ v := .iface t v, recovered := false } :: older)) w := by
  refine leaves_cons (f := 31) (args := #[.pointer (some ⟨pa, 0, none⟩), .pointer (some ⟨pe, 0, none⟩)]) (by simp) (by simp [go_sem]) ?_
  refine (res_out ha he hne ht v older).mono ?_
  rintro e1 u w3 ⟨rfl, rfl, a3, e3, f3⟩
  have hs : settle (.panicking ({ v := .iface t v, recovered := true } :: older)) = .returning := by simp [settle, ho]
  show Leaves Try.prog fn tmps R [cntD pg pe] (settle (.panicking ({ v := .iface t v, recovered := true } :: older))) w3
  rw [hs]
  exact h _ a3 e3 f3
theorem leave_syn {fn : Func} {tmps : Array Value} {R : Ending → World → Prop} {w : World} {pg pa pe : Nat} {x y : Value} (ha : At w pa 0 x) (he : At w pe 0 y) (hne : pa ≠ pe) {q : Nat} (hq : q ≤ 20)
    (h : ∀ w', At w' pa 0 (.string (atA q)) → At w' pe 0 (.int .i64 8) → Fr (fun k => k = pa ∨ k = pe) w w' → Leaves Try.prog fn tmps R [cntD pg pe] .returning w') : Leaves Try.prog fn tmps R [resD pa pe, cntD pg pe] (.panicking [{ v := synV q, recovered := false }]) w := by
  refine leaves_cons (f := 31) (args := #[.pointer (some ⟨pa, 0, none⟩), .pointer (some ⟨pe, 0, none⟩)]) (by simp) (by simp [go_sem]) ?_
  refine (res_syn ha he hne hq []).mono ?_
  rintro e1 u w3 ⟨rfl, rfl, a3, e3, f3⟩
  exact h _ a3 e3 f3

/-- What Serve answers, and the ledger behind it. -/
def srv (s : Led) (req : ByteArray) : ByteArray × Int × Led :=
  if 20 < req.size then (⟨#[]⟩, 1, s) else
  match decP req with
  | .error q => (atA q, 8, s)
  | .ok c => match runP s c with
    | some x => (x.1, x.2, runS s c)
    | none => (⟨#[]⟩, 9, runS s c)

end Go.Proofs.Qxb6500452a
