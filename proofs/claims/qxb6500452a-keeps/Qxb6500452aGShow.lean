/- The gate: Show; Fact, Look, Grab, Drop. -/
import Derived.Test.Qxb6500452aGNew
namespace Go.Proofs.Qxb6500452a
open Go Go.RowKit
set_option maxRecDepth 100000
set_option maxHeartbeats 1600000
set_option linter.unusedSimpArgs false
set_option linter.unusedVariables false

def showH (c : Cts) : ByteArray := ((((((((⟨#[111, 107, 61]⟩ ++ Ia.bs (Ia.itoa (c.ok : Int))) ++ ⟨#[32, 98, 97, 100, 61]⟩) ++ Ia.bs (Ia.itoa (c.bad : Int))) ++ ⟨#[32, 101, 114, 114, 61]⟩) ++ Ia.bs (Ia.itoa (c.err : Int))) ++ ⟨#[32, 105, 110, 116, 61]⟩) ++ Ia.bs (Ia.itoa (c.inn : Int))) ++ ⟨#[32, 124, 32]⟩)
def showG (s : Led) (c : Cts) : ByteArray := showH c ++ L.bs (showD s)
theorem ba_size (a b : ByteArray) : (a ++ b).size = a.size + b.size := by simp [ByteArray.size_append]

theorem gshow_any {w : World} {G : Nat} {b : LB} {s : Led} {c : Cts} (h : GT w G b s c) :
    Calls Try.prog 23 #[.pointer (some ⟨G, 0, none⟩)] w fun e w' => e = .returned (.string (showG s c)) ∧ Fr (fun _ => False) w w' := by
  have H := hid h
  obtain ⟨l1, l2, l3, l4⟩ := h.cl
  have c1 := h.g1.c
  have z1 : (Ia.bs (Ia.itoa (c.ok : Int))).size ≤ 21 := by rw [Ia.bs_size]; exact Ia.itoa_len _
  have z2 : (Ia.bs (Ia.itoa (c.bad : Int))).size ≤ 21 := by rw [Ia.bs_size]; exact Ia.itoa_len _
  have z3 : (Ia.bs (Ia.itoa (c.err : Int))).size ≤ 21 := by rw [Ia.bs_size]; exact Ia.itoa_len _
  have z4 : (Ia.bs (Ia.itoa (c.inn : Int))).size ≤ 21 := by rw [Ia.bs_size]; exact Ia.itoa_len _
  have z5 : (L.bs (showD s)).size ≤ 300 := by
    rw [Lbs_size]
    have h1 := balL_len s.bal 4
    have h2 := Ia.itoa_len (s.un : Int)
    have h3 := h.r.rt.ok.len
    simp [showD, L.showL]; omega
  clear h
  unfold showG showH
  generalize hS : L.bs (showD s) = sd at *
  have HS := hid hS
  clear hS
  go_enter Try.func23, Try.ntmps23
  go_wp2_with fail
  refine (Ia.itoa_any (c.ok : Int) _ (by omega) (by omega)).mono ?_
  rintro e w1 ⟨rfl, f1⟩
  have F1 := hid f1
  have c2 := (H.out.g2.fr f1 (fun h => h)).c
  clear f1 c1
  go_wp2_with fail
  refine (Ia.itoa_any (c.bad : Int) _ (by omega) (by omega)).mono ?_
  rintro e w2 ⟨rfl, f2⟩
  have F2 := hid (F1.out.trans f2)
  have c3 := (H.out.g3.fr F2.out (fun h => h)).c
  clear f2 c2
  go_wp2_with fail
  refine (Ia.itoa_any (c.err : Int) _ (by omega) (by omega)).mono ?_
  rintro e w3 ⟨rfl, f3⟩
  have F3 := hid (F2.out.trans f3)
  have c4 := (H.out.g4.fr F3.out (fun h => h)).c
  clear f3 c3
  go_wp2_with fail
  refine (Ia.itoa_any (c.inn : Int) _ (by omega) (by omega)).mono ?_
  rintro e w4 ⟨rfl, f4⟩
  have F4 := hid (F3.out.trans f4)
  have c0 := (H.out.g0.fr F4.out (fun h => h)).c
  clear f4 c4
  go_wp2_with fail
  have hsh := lshow_any (H.out.r.fr F4.out (fun _ _ h => h))
  rw [HS.out] at hsh
  refine hsh.mono ?_
  clear hsh
  rintro e w5 ⟨rfl, f5⟩
  go_wp2_with fail
  go_ret
  exact ⟨rfl, F4.out.trans f5⟩

theorem fact_yes {w : World} {G : Nat} {b : LB} {s : Led} {c : Cts} (h : GT w G b s c) {req ans : ByteArray} {e : Int} (hA : (srv s req).1 = ans) (hE : (srv s req).2.1 = e) :
    Calls Try.prog 22 #[.pointer (some ⟨G, 0, none⟩), .string req, .string ans, .int .i64 e] w fun x w' => x = .returned (.bool true) ∧ GT w' G b (srv s req).2.2 (cntC c e) ∧ Fr (SG b G) w w' := by
  have hS := serve_any h req
  rw [hA, hE] at hS
  have HS := hid hS
  clear hS hA hE h
  generalize (srv s req).2.2 = s' at *
  go_enter Try.func22, Try.ntmps22
  go_wp2_with fail
  refine HS.out.mono ?_
  rintro x w1 ⟨rfl, gt, f1⟩
  have GT1 := hid gt
  have F1 := hid f1
  clear gt f1 HS
  go_wp2_with fail
  go_ret
  exact ⟨rfl, GT1.out, F1.out⟩

theorem look_yes {w : World} {G : Nat} {b : LB} {s : Led} {c : Cts} (h : GT w G b s c) {want : ByteArray} (hA : showG s c = want) :
    Calls Try.prog 24 #[.pointer (some ⟨G, 0, none⟩), .string want] w fun x w' => x = .returned (.bool true) ∧ GT w' G b s c ∧ Fr (fun _ => False) w w' := by
  have hS := gshow_any h
  rw [hA] at hS
  have HS := hid hS
  have H := hid h
  clear hS hA h
  go_enter Try.func24, Try.ntmps24
  go_wp2_with fail
  refine HS.out.mono ?_
  rintro x w1 ⟨rfl, f1⟩
  have F1 := hid f1
  clear f1 HS
  go_wp2_with fail
  go_ret
  exact ⟨rfl, H.out.fr F1.out (fun _ _ h => h), F1.out⟩

theorem GT.lock {w w' : World} {G : Nat} {b : LB} {s : Led} {c : Cts} (h : GT w G b s c) {lk : L.St} (hr : RT w' b.T b.C b.R lk) (hf : Fr (S3 b.T b.C b.R) w w') : GT w' G b ⟨lk, s.bal, s.un⟩ c :=
  h.led (h.r.lock hr hf) (hf.mono (fun _ _ h => SL_of3 h))
theorem ggrab_any {w : World} {G : Nat} {b : LB} {s : Led} {c : Cts} (h : GT w G b s c) (k : Int) :
    Calls Try.prog 25 #[.agg #[.pointer (some ⟨b.D, 0, none⟩), .pointer (some ⟨b.T, 0, none⟩)], .int .i64 k] w fun x w' => x = .returned (.int .i64 (L.acq s.lk k).1) ∧ GT w' G b ⟨(L.acq s.lk k).2.2, s.bal, s.un⟩ c ∧ Fr (SG b G) w w' := by
  have H := hid h
  clear h
  go_enter Try.func25, Try.ntmps25
  go_wp2_with fail
  have fa := (Fr.refl (fun _ => False) w).alloc (.cells #[.pointer (some ⟨b.D, 0, none⟩), .pointer (some ⟨b.T, 0, none⟩)] 30)
  have HA := hid (H.out.fr fa (fun _ _ h => h))
  have FA := hid fa
  clear fa
  refine (acquire_any HA.out.r.rt k).mono ?_
  rintro x w1 ⟨rfl, r1, f1⟩
  have G1 := hid (HA.out.lock r1 f1)
  have F1 : Hid (Fr (SG b G) w w1) := (FA.out.mono (fun _ _ h => h.elim)).trans (f1.mono (fun _ _ h => .inl (SL_of3 h)))
  clear r1 f1
  go_wp2_with fail
  go_ret
  exact ⟨rfl, G1.out, F1.out⟩
theorem gdrop_any {w : World} {G : Nat} {b : LB} {s : Led} {c : Cts} (h : GT w G b s c) (k : Int) :
    Calls Try.prog 26 #[.agg #[.pointer (some ⟨b.D, 0, none⟩), .pointer (some ⟨b.T, 0, none⟩)], .int .i64 k] w fun x w' => x = .returned (.tuple #[]) ∧ GT w' G b ⟨(L.rel s.lk k).2, s.bal, s.un⟩ c ∧ Fr (SG b G) w w' := by
  have H := hid h
  clear h
  go_enter Try.func26, Try.ntmps26
  go_wp2_with fail
  have fa := (Fr.refl (fun _ => False) w).alloc (.cells #[.pointer (some ⟨b.D, 0, none⟩), .pointer (some ⟨b.T, 0, none⟩)] 30)
  have HA := hid (H.out.fr fa (fun _ _ h => h))
  have FA := hid fa
  clear fa
  refine (release_any HA.out.r.rt k).mono ?_
  rintro x w1 ⟨rfl, r1, f1⟩
  have G1 := hid (HA.out.lock r1 f1)
  have F1 : Hid (Fr (SG b G) w w1) := (FA.out.mono (fun _ _ h => h.elim)).trans (f1.mono (fun _ _ h => .inl (SL_of3 h)))
  clear r1 f1
  go_wp2_with fail
  go_end0
  exact ⟨rfl, G1.out, F1.out⟩

end Go.Proofs.Qxb6500452a
