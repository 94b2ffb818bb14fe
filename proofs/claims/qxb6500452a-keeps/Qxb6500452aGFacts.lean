/- The closed examples, walked. -/
import Derived.Test.Qxb6500452aGFacts1
namespace Go.Proofs.Qxb6500452a
open Go Go.RowKit
set_option maxRecDepth 100000
set_option maxHeartbeats 20000000
set_option linter.unusedSimpArgs false
set_option linter.unusedVariables false

theorem gfacts_any (w : World) : Calls Try.prog 15 #[] w fun e w' => e = .returned (.int .i64 (-1)) ∧ Fr (fun _ => False) w w' := by
  have F : Hid (Fr (fun _ => False) w w) := Fr.refl _ _
  go_enter Try.func15, Try.ntmps15
  go_wp2_with fail
  refine (gground_any _).mono ?_
  rintro e wg ⟨b, rfl, lr, hb, f1⟩
  have LR1 := hid (lr.fr ((Fr.refl (fun _ => False) wg).alloc (.cells #[.pointer (some ⟨b.D, 0, none⟩), .pointer (some ⟨b.T, 0, none⟩)] 30)) (fun _ _ h => h))
  have F2 := hid (f1.alloc (.cells #[.pointer (some ⟨b.D, 0, none⟩), .pointer (some ⟨b.T, 0, none⟩)] 30))
  have HBB := hid hb
  skip
  skip
  skip
  clear lr f1 hb
  go_wp2_with fail
  generalize wg.alloc (.cells #[.pointer (some ⟨b.D, 0, none⟩), .pointer (some ⟨b.T, 0, none⟩)] 30) = wh at *
  skip
  refine (gnew_any LR1.out).mono ?_
  rintro e wn ⟨G, hG, rfl, gt, f3⟩
  have GTc := hid gt
  have HSG := hid (ready F.out HBB.out F2.out hG)
  skip
  skip
  have F := hid ((F.out.trans F2.out).trans f3)
  have HOK : Hid (okAll fl0 (led0 L.init, ⟨0, 0, 0, 0⟩) = true) := ok0
  obtain ⟨st, hst⟩ : ∃ st : Led × Cts, st = (led0 L.init, ⟨0, 0, 0, 0⟩) := ⟨_, rfl⟩
  have GTc : Hid (GT wn G b st.1 st.2) := by rw [hst]; exact GTc.out
  rw [← hst] at HOK
  clear hst gt f3 hG LR1 F2 HBB
  go_wp2_with fail
  refine (fact_it GTc.out HOK.out).mono ?_
  rintro e wc ⟨rfl, st, ho, gt, f⟩
  replace GTc := hid gt
  replace HOK := hid ho
  replace F := hid (F.out.then f (fun i hi d => by have := HSG.out i d; omega))
  clear gt ho f
  go_wp2_with fail
  refine (fact_it GTc.out HOK.out).mono ?_
  rintro e wc ⟨rfl, st, ho, gt, f⟩
  replace GTc := hid gt
  replace HOK := hid ho
  replace F := hid (F.out.then f (fun i hi d => by have := HSG.out i d; omega))
  clear gt ho f
  go_wp2_with fail
  refine (fact_it GTc.out HOK.out).mono ?_
  rintro e wc ⟨rfl, st, ho, gt, f⟩
  replace GTc := hid gt
  replace HOK := hid ho
  replace F := hid (F.out.then f (fun i hi d => by have := HSG.out i d; omega))
  clear gt ho f
  go_wp2_with fail
  refine (fact_it GTc.out HOK.out).mono ?_
  rintro e wc ⟨rfl, st, ho, gt, f⟩
  replace GTc := hid gt
  replace HOK := hid ho
  replace F := hid (F.out.then f (fun i hi d => by have := HSG.out i d; omega))
  clear gt ho f
  go_wp2_with fail
  refine (fact_it GTc.out HOK.out).mono ?_
  rintro e wc ⟨rfl, st, ho, gt, f⟩
  replace GTc := hid gt
  replace HOK := hid ho
  replace F := hid (F.out.then f (fun i hi d => by have := HSG.out i d; omega))
  clear gt ho f
  go_wp2_with fail
  refine (fact_it GTc.out HOK.out).mono ?_
  rintro e wc ⟨rfl, st, ho, gt, f⟩
  replace GTc := hid gt
  replace HOK := hid ho
  replace F := hid (F.out.then f (fun i hi d => by have := HSG.out i d; omega))
  clear gt ho f
  go_wp2_with fail
  refine (fact_it GTc.out HOK.out).mono ?_
  rintro e wc ⟨rfl, st, ho, gt, f⟩
  replace GTc := hid gt
  replace HOK := hid ho
  replace F := hid (F.out.then f (fun i hi d => by have := HSG.out i d; omega))
  clear gt ho f
  go_wp2_with fail
  refine (fact_it GTc.out HOK.out).mono ?_
  rintro e wc ⟨rfl, st, ho, gt, f⟩
  replace GTc := hid gt
  replace HOK := hid ho
  replace F := hid (F.out.then f (fun i hi d => by have := HSG.out i d; omega))
  clear gt ho f
  go_wp2_with fail
  refine (fact_it GTc.out HOK.out).mono ?_
  rintro e wc ⟨rfl, st, ho, gt, f⟩
  replace GTc := hid gt
  replace HOK := hid ho
  replace F := hid (F.out.then f (fun i hi d => by have := HSG.out i d; omega))
  clear gt ho f
  go_wp2_with fail
  refine (fact_it GTc.out HOK.out).mono ?_
  rintro e wc ⟨rfl, st, ho, gt, f⟩
  replace GTc := hid gt
  replace HOK := hid ho
  replace F := hid (F.out.then f (fun i hi d => by have := HSG.out i d; omega))
  clear gt ho f
  go_wp2_with fail
  refine (fact_it GTc.out HOK.out).mono ?_
  rintro e wc ⟨rfl, st, ho, gt, f⟩
  replace GTc := hid gt
  replace HOK := hid ho
  replace F := hid (F.out.then f (fun i hi d => by have := HSG.out i d; omega))
  clear gt ho f
  go_wp2_with fail
  refine (fact_it GTc.out HOK.out).mono ?_
  rintro e wc ⟨rfl, st, ho, gt, f⟩
  replace GTc := hid gt
  replace HOK := hid ho
  replace F := hid (F.out.then f (fun i hi d => by have := HSG.out i d; omega))
  clear gt ho f
  go_wp2_with fail
  refine (fact_it GTc.out HOK.out).mono ?_
  rintro e wc ⟨rfl, st, ho, gt, f⟩
  replace GTc := hid gt
  replace HOK := hid ho
  replace F := hid (F.out.then f (fun i hi d => by have := HSG.out i d; omega))
  clear gt ho f
  go_wp2_with fail
  refine (fact_it GTc.out HOK.out).mono ?_
  rintro e wc ⟨rfl, st, ho, gt, f⟩
  replace GTc := hid gt
  replace HOK := hid ho
  replace F := hid (F.out.then f (fun i hi d => by have := HSG.out i d; omega))
  clear gt ho f
  go_wp2_with fail
  refine (fact_it GTc.out HOK.out).mono ?_
  rintro e wc ⟨rfl, st, ho, gt, f⟩
  replace GTc := hid gt
  replace HOK := hid ho
  replace F := hid (F.out.then f (fun i hi d => by have := HSG.out i d; omega))
  clear gt ho f
  go_wp2_with fail
  refine (fact_it GTc.out HOK.out).mono ?_
  rintro e wc ⟨rfl, st, ho, gt, f⟩
  replace GTc := hid gt
  replace HOK := hid ho
  replace F := hid (F.out.then f (fun i hi d => by have := HSG.out i d; omega))
  clear gt ho f
  go_wp2_with fail
  refine (fact_it GTc.out HOK.out).mono ?_
  rintro e wc ⟨rfl, st, ho, gt, f⟩
  replace GTc := hid gt
  replace HOK := hid ho
  replace F := hid (F.out.then f (fun i hi d => by have := HSG.out i d; omega))
  clear gt ho f
  go_wp2_with fail
  refine (fact_it GTc.out HOK.out).mono ?_
  rintro e wc ⟨rfl, st, ho, gt, f⟩
  replace GTc := hid gt
  replace HOK := hid ho
  replace F := hid (F.out.then f (fun i hi d => by have := HSG.out i d; omega))
  clear gt ho f
  go_wp2_with fail
  refine (fact_it GTc.out HOK.out).mono ?_
  rintro e wc ⟨rfl, st, ho, gt, f⟩
  replace GTc := hid gt
  replace HOK := hid ho
  replace F := hid (F.out.then f (fun i hi d => by have := HSG.out i d; omega))
  clear gt ho f
  go_wp2_with fail
  refine (fact_it GTc.out HOK.out).mono ?_
  rintro e wc ⟨rfl, st, ho, gt, f⟩
  replace GTc := hid gt
  replace HOK := hid ho
  replace F := hid (F.out.then f (fun i hi d => by have := HSG.out i d; omega))
  clear gt ho f
  go_wp2_with fail
  refine (fact_it GTc.out HOK.out).mono ?_
  rintro e wc ⟨rfl, st, ho, gt, f⟩
  replace GTc := hid gt
  replace HOK := hid ho
  replace F := hid (F.out.then f (fun i hi d => by have := HSG.out i d; omega))
  clear gt ho f
  go_wp2_with fail
  refine (fact_it GTc.out HOK.out).mono ?_
  rintro e wc ⟨rfl, st, ho, gt, f⟩
  replace GTc := hid gt
  replace HOK := hid ho
  replace F := hid (F.out.then f (fun i hi d => by have := HSG.out i d; omega))
  clear gt ho f
  go_wp2_with fail
  refine (fact_it GTc.out HOK.out).mono ?_
  rintro e wc ⟨rfl, st, ho, gt, f⟩
  replace GTc := hid gt
  replace HOK := hid ho
  replace F := hid (F.out.then f (fun i hi d => by have := HSG.out i d; omega))
  clear gt ho f
  go_wp2_with fail
  refine (fact_it GTc.out HOK.out).mono ?_
  rintro e wc ⟨rfl, st, ho, gt, f⟩
  replace GTc := hid gt
  replace HOK := hid ho
  replace F := hid (F.out.then f (fun i hi d => by have := HSG.out i d; omega))
  clear gt ho f
  go_wp2_with fail
  refine (fact_it GTc.out HOK.out).mono ?_
  rintro e wc ⟨rfl, st, ho, gt, f⟩
  replace GTc := hid gt
  replace HOK := hid ho
  replace F := hid (F.out.then f (fun i hi d => by have := HSG.out i d; omega))
  clear gt ho f
  go_wp2_with fail
  refine (fact_it GTc.out HOK.out).mono ?_
  rintro e wc ⟨rfl, st, ho, gt, f⟩
  replace GTc := hid gt
  replace HOK := hid ho
  replace F := hid (F.out.then f (fun i hi d => by have := HSG.out i d; omega))
  clear gt ho f
  go_wp2_with fail
  refine (fact_it GTc.out HOK.out).mono ?_
  rintro e wc ⟨rfl, st, ho, gt, f⟩
  replace GTc := hid gt
  replace HOK := hid ho
  replace F := hid (F.out.then f (fun i hi d => by have := HSG.out i d; omega))
  clear gt ho f
  go_wp2_with fail
  refine (fact_it GTc.out HOK.out).mono ?_
  rintro e wc ⟨rfl, st, ho, gt, f⟩
  replace GTc := hid gt
  replace HOK := hid ho
  replace F := hid (F.out.then f (fun i hi d => by have := HSG.out i d; omega))
  clear gt ho f
  go_wp2_with fail
  refine (fact_it GTc.out HOK.out).mono ?_
  rintro e wc ⟨rfl, st, ho, gt, f⟩
  replace GTc := hid gt
  replace HOK := hid ho
  replace F := hid (F.out.then f (fun i hi d => by have := HSG.out i d; omega))
  clear gt ho f
  go_wp2_with fail
  refine (fact_it GTc.out HOK.out).mono ?_
  rintro e wc ⟨rfl, st, ho, gt, f⟩
  replace GTc := hid gt
  replace HOK := hid ho
  replace F := hid (F.out.then f (fun i hi d => by have := HSG.out i d; omega))
  clear gt ho f
  go_wp2_with fail
  refine (fact_it GTc.out HOK.out).mono ?_
  rintro e wc ⟨rfl, st, ho, gt, f⟩
  replace GTc := hid gt
  replace HOK := hid ho
  replace F := hid (F.out.then f (fun i hi d => by have := HSG.out i d; omega))
  clear gt ho f
  go_wp2_with fail
  refine (fact_it GTc.out HOK.out).mono ?_
  rintro e wc ⟨rfl, st, ho, gt, f⟩
  replace GTc := hid gt
  replace HOK := hid ho
  replace F := hid (F.out.then f (fun i hi d => by have := HSG.out i d; omega))
  clear gt ho f
  go_wp2_with fail
  refine (fact_it GTc.out HOK.out).mono ?_
  rintro e wc ⟨rfl, st, ho, gt, f⟩
  replace GTc := hid gt
  replace HOK := hid ho
  replace F := hid (F.out.then f (fun i hi d => by have := HSG.out i d; omega))
  clear gt ho f
  go_wp2_with fail
  refine (fact_it GTc.out HOK.out).mono ?_
  rintro e wc ⟨rfl, st, ho, gt, f⟩
  replace GTc := hid gt
  replace HOK := hid ho
  replace F := hid (F.out.then f (fun i hi d => by have := HSG.out i d; omega))
  clear gt ho f
  go_wp2_with fail
  refine (fact_it GTc.out HOK.out).mono ?_
  rintro e wc ⟨rfl, st, ho, gt, f⟩
  replace GTc := hid gt
  replace HOK := hid ho
  replace F := hid (F.out.then f (fun i hi d => by have := HSG.out i d; omega))
  clear gt ho f
  go_wp2_with fail
  refine (fact_it GTc.out HOK.out).mono ?_
  rintro e wc ⟨rfl, st, ho, gt, f⟩
  replace GTc := hid gt
  replace HOK := hid ho
  replace F := hid (F.out.then f (fun i hi d => by have := HSG.out i d; omega))
  clear gt ho f
  go_wp2_with fail
  refine (fact_it GTc.out HOK.out).mono ?_
  rintro e wc ⟨rfl, st, ho, gt, f⟩
  replace GTc := hid gt
  replace HOK := hid ho
  replace F := hid (F.out.then f (fun i hi d => by have := HSG.out i d; omega))
  clear gt ho f
  go_wp2_with fail
  refine (fact_it GTc.out HOK.out).mono ?_
  rintro e wc ⟨rfl, st, ho, gt, f⟩
  replace GTc := hid gt
  replace HOK := hid ho
  replace F := hid (F.out.then f (fun i hi d => by have := HSG.out i d; omega))
  clear gt ho f
  go_wp2_with fail
  refine (fact_it GTc.out HOK.out).mono ?_
  rintro e wc ⟨rfl, st, ho, gt, f⟩
  replace GTc := hid gt
  replace HOK := hid ho
  replace F := hid (F.out.then f (fun i hi d => by have := HSG.out i d; omega))
  clear gt ho f
  go_wp2_with fail
  refine (fact_it GTc.out HOK.out).mono ?_
  rintro e wc ⟨rfl, st, ho, gt, f⟩
  replace GTc := hid gt
  replace HOK := hid ho
  replace F := hid (F.out.then f (fun i hi d => by have := HSG.out i d; omega))
  clear gt ho f
  go_upto_region 84 with (first | (go_at_call 23; refine (pre_it GTc.out HOK.out).mono ?_; rintro e wc ⟨sh, rfl, hs1, hs2, hs3, ho, gt, f⟩) | fail)
  replace GTc := hid gt
  replace HOK := hid ho
  replace F := hid (F.out.trans f)
  have hz1 : 56 ≤ sh.size := hs1
  have hcut : ∀ W, (Instr.slice 9 (.string sh) none (some (.int .i64 56)) none).run Try.prog W = .ok (.string ⟨#[111, 107, 61, 49, 57, 32, 98, 97, 100, 61, 49, 48, 32, 101, 114, 114, 61, 57, 32, 105, 110, 116, 61, 50, 32, 124, 32, 98, 97, 108, 61, 54, 48, 44, 48, 44, 50, 52, 48, 44, 49, 48, 48, 44, 32, 117, 110, 100, 111, 110, 101, 61, 50, 32, 124, 32]⟩) W := fun W => by
    rw [run_slice_string_h W 9 _ Try.underlying9 .i64 56 (by omega) (by omega)]
    congr 2
  have hz2 : (56 : Int) ≤ (sh.size : Int) := by omega
  clear gt ho f hs1 hs3 hz1
  go_upto_region 87 with fail
  clear hcut hz2 hs2
  go_wp2_with fail
  refine (gground_any _).mono ?_
  rintro e wg ⟨b, rfl, lr, hb, f1⟩
  have LR1 := hid (lr.fr ((Fr.refl (fun _ => False) wg).alloc (.cells #[.pointer (some ⟨b.D, 0, none⟩), .pointer (some ⟨b.T, 0, none⟩)] 30)) (fun _ _ h => h))
  have F2 := hid (f1.alloc (.cells #[.pointer (some ⟨b.D, 0, none⟩), .pointer (some ⟨b.T, 0, none⟩)] 30))
  have HBB := hid hb
  skip
  skip
  skip
  clear lr f1 hb
  go_wp2_with fail
  generalize wg.alloc (.cells #[.pointer (some ⟨b.D, 0, none⟩), .pointer (some ⟨b.T, 0, none⟩)] 30) = wh at *
  skip
  refine (gnew_any LR1.out).mono ?_
  rintro e wn ⟨G, hG, rfl, gt, f3⟩
  have GTc := hid gt
  have HSG := hid (ready F.out HBB.out F2.out hG)
  skip
  skip
  have F := hid ((F.out.trans F2.out).trans f3)
  have HOK : Hid (okAll fl1 (led0 L.init, ⟨0, 0, 0, 0⟩) = true) := ok1
  obtain ⟨st, hst⟩ : ∃ st : Led × Cts, st = (led0 L.init, ⟨0, 0, 0, 0⟩) := ⟨_, rfl⟩
  have GTc : Hid (GT wn G b st.1 st.2) := by rw [hst]; exact GTc.out
  rw [← hst] at HOK
  clear hst gt f3 hG LR1 F2 HBB
  obtain ⟨rs, hrs⟩ : ∃ rs : List Item, okAll (List.replicate 100 (.serve ⟨#[]⟩) ++ rs) st = true ∧ rs = [.pre ⟨#[111, 107, 61, 48, 32, 98, 97, 100, 61, 57, 57, 32, 101, 114, 114, 61, 48, 32, 105, 110, 116, 61, 48, 32, 124, 32]⟩, .fact ⟨#[88, 48, 49, 49, 59, 48, 49, 49, 59, 48, 49, 49, 59]⟩ ⟨#[51]⟩ 0, .fact ⟨#[84, 48, 49, 58]⟩ ⟨#[64, 51]⟩ 8, .fact ⟨#[84, 48, 49, 47]⟩ ⟨#[64, 51]⟩ 8, .fact ⟨#[66, 58]⟩ ⟨#[64, 49]⟩ 8, .look ⟨#[111, 107, 61, 49, 32, 98, 97, 100, 61, 57, 57, 32, 101, 114, 114, 61, 48, 32, 105, 110, 116, 61, 48, 32, 124, 32, 98, 97, 108, 61, 57, 55, 44, 49, 48, 51, 44, 49, 48, 48, 44, 49, 48, 48, 44, 32, 117, 110, 100, 111, 110, 101, 61, 48, 32, 124, 32, 111, 112, 101, 110, 61, 48, 48, 48, 48, 32, 103, 101, 110, 61, 49, 49, 48, 48, 32, 116, 114, 97, 99, 101, 61, 65, 48, 65, 49, 82, 49, 82, 48]⟩, .fact ⟨#[84, 48, 49, 48]⟩ ⟨#[]⟩ 2, .look ⟨#[111, 107, 61, 49, 32, 98, 97, 100, 61, 57, 57, 32, 101, 114, 114, 61, 49, 32, 105, 110, 116, 61, 48, 32, 124, 32, 98, 97, 108, 61, 57, 55, 44, 49, 48, 51, 44, 49, 48, 48, 44, 49, 48, 48, 44, 32, 117, 110, 100, 111, 110, 101, 61, 48, 32, 124, 32, 111, 112, 101, 110, 61, 48, 48, 48, 48, 32, 103, 101, 110, 61, 49, 49, 48, 48, 32, 116, 114, 97, 99, 101, 61]⟩, .fact ⟨#[84, 49, 48, 49]⟩ ⟨#[49, 48, 50]⟩ 0, .look ⟨#[111, 107, 61, 50, 32, 98, 97, 100, 61, 57, 57, 32, 101, 114, 114, 61, 49, 32, 105, 110, 116, 61, 48, 32, 124, 32, 98, 97, 108, 61, 57, 56, 44, 49, 48, 50, 44, 49, 48, 48, 44, 49, 48, 48, 44, 32, 117, 110, 100, 111, 110, 101, 61, 48, 32, 124, 32, 111, 112, 101, 110, 61, 48, 48, 48, 48, 32, 103, 101, 110, 61, 50, 50, 48, 48, 32, 116, 114, 97, 99, 101, 61, 65, 48, 65, 49, 82, 48, 82, 49]⟩, .fact ⟨#[88, 49, 48, 49, 59]⟩ ⟨#[49]⟩ 0, .look ⟨#[111, 107, 61, 51, 32, 98, 97, 100, 61, 57, 57, 32, 101, 114, 114, 61, 49, 32, 105, 110, 116, 61, 48, 32, 124, 32, 98, 97, 108, 61, 57, 57, 44, 49, 48, 49, 44, 49, 48, 48, 44, 49, 48, 48, 44, 32, 117, 110, 100, 111, 110, 101, 61, 48, 32, 124, 32, 111, 112, 101, 110, 61, 48, 48, 48, 48, 32, 103, 101, 110, 61, 51, 51, 48, 48, 32, 116, 114, 97, 99, 101, 61, 65, 49, 65, 48, 82, 48, 82, 49]⟩, .fact ⟨#[65]⟩ ⟨#[52, 48, 48]⟩ 0, .look ⟨#[111, 107, 61, 52, 32, 98, 97, 100, 61, 57, 57, 32, 101, 114, 114, 61, 49, 32, 105, 110, 116, 61, 48, 32, 124, 32, 98, 97, 108, 61, 57, 57, 44, 49, 48, 49, 44, 49, 48, 48, 44, 49, 48, 48, 44, 32, 117, 110, 100, 111, 110, 101, 61, 48, 32, 124, 32, 111, 112, 101, 110, 61, 48, 48, 48, 48, 32, 103, 101, 110, 61, 48, 48, 49, 49, 32, 116, 114, 97, 99, 101, 61, 65, 48, 82, 48, 65, 49, 82, 49, 65, 50, 82, 50, 65, 51, 82, 51]⟩] := ⟨_, HOK.out, rfl⟩
  go_wp2_with fail
  go_loopw [7] (fun i wr => ∃ (k : Nat) (st : Led × Cts), k ≤ 100 ∧ i = .int .i64 (k : Int) ∧ okAll (List.replicate (100 - k) (.serve ⟨#[]⟩) ++ rs) st = true ∧ GT wr G b st.1 st.2 ∧ Fr (fun _ => False) w wr) (fun i _ => 100 - (intOf i).toNat)
  case atStart => exact ⟨0, st, by omega, rfl, hrs.1, GTc.out, F.out⟩
  case round =>
    obtain ⟨k, st, hk, rfl, ho, gt, fr⟩ := hrel
    have GTc := hid gt
    have F := hid fr
    have HO := hid ho
    have HRS := hid hrs.2
    have hk0 : (0 : Int) ≤ (k : Int) := by omega
    clear gt fr ho hrs
    by_cases hlt : k < 100
    · have hltI : (k : Int) < 100 := by omega
      have HOK : Hid (okAll (.serve ⟨#[]⟩ :: (List.replicate (100 - (k + 1)) (.serve ⟨#[]⟩) ++ rs)) st = true) := by
        have := HO.out
        rw [show 100 - k = (100 - (k + 1)) + 1 by omega, List.replicate_succ] at this
        exact this
      go_wp2_with fail
      refine (serve_it GTc.out HOK.out).mono ?_
      rintro e wc ⟨aa, ee, rfl, st, ho, gt, f⟩
      have GTd := hid gt
      have HOD := hid ho
      have FD := hid (F.out.then f (fun i hi d => by have := HSG.out i d; omega))
      clear gt ho f
      go_wp2_with fail
      exact ⟨⟨k + 1, st, by omega, by go_num, HOD.out, GTd.out, FD.out⟩, by simp [intOf]; omega⟩
    · have hltI : ¬ (k : Int) < 100 := by omega
      obtain rfl : k = 100 := by omega
      have HOK : Hid (okAll ([.pre ⟨#[111, 107, 61, 48, 32, 98, 97, 100, 61, 57, 57, 32, 101, 114, 114, 61, 48, 32, 105, 110, 116, 61, 48, 32, 124, 32]⟩, .fact ⟨#[88, 48, 49, 49, 59, 48, 49, 49, 59, 48, 49, 49, 59]⟩ ⟨#[51]⟩ 0, .fact ⟨#[84, 48, 49, 58]⟩ ⟨#[64, 51]⟩ 8, .fact ⟨#[84, 48, 49, 47]⟩ ⟨#[64, 51]⟩ 8, .fact ⟨#[66, 58]⟩ ⟨#[64, 49]⟩ 8, .look ⟨#[111, 107, 61, 49, 32, 98, 97, 100, 61, 57, 57, 32, 101, 114, 114, 61, 48, 32, 105, 110, 116, 61, 48, 32, 124, 32, 98, 97, 108, 61, 57, 55, 44, 49, 48, 51, 44, 49, 48, 48, 44, 49, 48, 48, 44, 32, 117, 110, 100, 111, 110, 101, 61, 48, 32, 124, 32, 111, 112, 101, 110, 61, 48, 48, 48, 48, 32, 103, 101, 110, 61, 49, 49, 48, 48, 32, 116, 114, 97, 99, 101, 61, 65, 48, 65, 49, 82, 49, 82, 48]⟩, .fact ⟨#[84, 48, 49, 48]⟩ ⟨#[]⟩ 2, .look ⟨#[111, 107, 61, 49, 32, 98, 97, 100, 61, 57, 57, 32, 101, 114, 114, 61, 49, 32, 105, 110, 116, 61, 48, 32, 124, 32, 98, 97, 108, 61, 57, 55, 44, 49, 48, 51, 44, 49, 48, 48, 44, 49, 48, 48, 44, 32, 117, 110, 100, 111, 110, 101, 61, 48, 32, 124, 32, 111, 112, 101, 110, 61, 48, 48, 48, 48, 32, 103, 101, 110, 61, 49, 49, 48, 48, 32, 116, 114, 97, 99, 101, 61]⟩, .fact ⟨#[84, 49, 48, 49]⟩ ⟨#[49, 48, 50]⟩ 0, .look ⟨#[111, 107, 61, 50, 32, 98, 97, 100, 61, 57, 57, 32, 101, 114, 114, 61, 49, 32, 105, 110, 116, 61, 48, 32, 124, 32, 98, 97, 108, 61, 57, 56, 44, 49, 48, 50, 44, 49, 48, 48, 44, 49, 48, 48, 44, 32, 117, 110, 100, 111, 110, 101, 61, 48, 32, 124, 32, 111, 112, 101, 110, 61, 48, 48, 48, 48, 32, 103, 101, 110, 61, 50, 50, 48, 48, 32, 116, 114, 97, 99, 101, 61, 65, 48, 65, 49, 82, 48, 82, 49]⟩, .fact ⟨#[88, 49, 48, 49, 59]⟩ ⟨#[49]⟩ 0, .look ⟨#[111, 107, 61, 51, 32, 98, 97, 100, 61, 57, 57, 32, 101, 114, 114, 61, 49, 32, 105, 110, 116, 61, 48, 32, 124, 32, 98, 97, 108, 61, 57, 57, 44, 49, 48, 49, 44, 49, 48, 48, 44, 49, 48, 48, 44, 32, 117, 110, 100, 111, 110, 101, 61, 48, 32, 124, 32, 111, 112, 101, 110, 61, 48, 48, 48, 48, 32, 103, 101, 110, 61, 51, 51, 48, 48, 32, 116, 114, 97, 99, 101, 61, 65, 49, 65, 48, 82, 48, 82, 49]⟩, .fact ⟨#[65]⟩ ⟨#[52, 48, 48]⟩ 0, .look ⟨#[111, 107, 61, 52, 32, 98, 97, 100, 61, 57, 57, 32, 101, 114, 114, 61, 49, 32, 105, 110, 116, 61, 48, 32, 124, 32, 98, 97, 108, 61, 57, 57, 44, 49, 48, 49, 44, 49, 48, 48, 44, 49, 48, 48, 44, 32, 117, 110, 100, 111, 110, 101, 61, 48, 32, 124, 32, 111, 112, 101, 110, 61, 48, 48, 48, 48, 32, 103, 101, 110, 61, 48, 48, 49, 49, 32, 116, 114, 97, 99, 101, 61, 65, 48, 82, 48, 65, 49, 82, 49, 65, 50, 82, 50, 65, 51, 82, 51]⟩]) st = true) := by
        have := HO.out
        rw [HRS.out] at this
        exact this
      clear HO HRS hlt hk
      go_upto_region 94 with (first | (go_at_call 23; refine (pre_it GTc.out HOK.out).mono ?_; rintro e wc ⟨sh, rfl, hs1, hs2, hs3, ho, gt, f⟩) | fail)
      replace GTc := hid gt
      replace HOK := hid ho
      replace F := hid (F.out.trans f)
      have hz1 : 26 ≤ sh.size := hs1
      have hcut : ∀ W, (Instr.slice 9 (.string sh) none (some (.int .i64 26)) none).run Try.prog W = .ok (.string ⟨#[111, 107, 61, 48, 32, 98, 97, 100, 61, 57, 57, 32, 101, 114, 114, 61, 48, 32, 105, 110, 116, 61, 48, 32, 124, 32]⟩) W := fun W => by
        rw [run_slice_string_h W 9 _ Try.underlying9 .i64 26 (by omega) (by omega)]
        congr 2
      have hz2 : (26 : Int) ≤ (sh.size : Int) := by omega
      clear gt ho f hs1 hs3 hz1
      go_upto_region 97 with fail
      clear hcut hz2 hs2
      go_wp2_with fail
      refine (fact_it GTc.out HOK.out).mono ?_
      rintro e wc ⟨rfl, st, ho, gt, f⟩
      replace GTc := hid gt
      replace HOK := hid ho
      replace F := hid (F.out.then f (fun i hi d => by have := HSG.out i d; omega))
      clear gt ho f
      go_wp2_with fail
      refine (fact_it GTc.out HOK.out).mono ?_
      rintro e wc ⟨rfl, st, ho, gt, f⟩
      replace GTc := hid gt
      replace HOK := hid ho
      replace F := hid (F.out.then f (fun i hi d => by have := HSG.out i d; omega))
      clear gt ho f
      go_wp2_with fail
      refine (fact_it GTc.out HOK.out).mono ?_
      rintro e wc ⟨rfl, st, ho, gt, f⟩
      replace GTc := hid gt
      replace HOK := hid ho
      replace F := hid (F.out.then f (fun i hi d => by have := HSG.out i d; omega))
      clear gt ho f
      go_wp2_with fail
      refine (fact_it GTc.out HOK.out).mono ?_
      rintro e wc ⟨rfl, st, ho, gt, f⟩
      replace GTc := hid gt
      replace HOK := hid ho
      replace F := hid (F.out.then f (fun i hi d => by have := HSG.out i d; omega))
      clear gt ho f
      go_wp2_with fail
      refine (look_it GTc.out HOK.out rfl).mono ?_
      rintro e wc ⟨rfl, ho, gt, f⟩
      replace GTc := hid gt
      replace HOK := hid ho
      replace F := hid (F.out.trans f)
      clear gt ho f
      go_wp2_with fail
      refine (fact_it GTc.out HOK.out).mono ?_
      rintro e wc ⟨rfl, st, ho, gt, f⟩
      replace GTc := hid gt
      replace HOK := hid ho
      replace F := hid (F.out.then f (fun i hi d => by have := HSG.out i d; omega))
      clear gt ho f
      go_wp2_with fail
      refine (look_it GTc.out HOK.out rfl).mono ?_
      rintro e wc ⟨rfl, ho, gt, f⟩
      replace GTc := hid gt
      replace HOK := hid ho
      replace F := hid (F.out.trans f)
      clear gt ho f
      go_wp2_with fail
      refine (fact_it GTc.out HOK.out).mono ?_
      rintro e wc ⟨rfl, st, ho, gt, f⟩
      replace GTc := hid gt
      replace HOK := hid ho
      replace F := hid (F.out.then f (fun i hi d => by have := HSG.out i d; omega))
      clear gt ho f
      go_wp2_with fail
      refine (look_it GTc.out HOK.out rfl).mono ?_
      rintro e wc ⟨rfl, ho, gt, f⟩
      replace GTc := hid gt
      replace HOK := hid ho
      replace F := hid (F.out.trans f)
      clear gt ho f
      go_wp2_with fail
      refine (fact_it GTc.out HOK.out).mono ?_
      rintro e wc ⟨rfl, st, ho, gt, f⟩
      replace GTc := hid gt
      replace HOK := hid ho
      replace F := hid (F.out.then f (fun i hi d => by have := HSG.out i d; omega))
      clear gt ho f
      go_wp2_with fail
      refine (look_it GTc.out HOK.out rfl).mono ?_
      rintro e wc ⟨rfl, ho, gt, f⟩
      replace GTc := hid gt
      replace HOK := hid ho
      replace F := hid (F.out.trans f)
      clear gt ho f
      go_wp2_with fail
      refine (fact_it GTc.out HOK.out).mono ?_
      rintro e wc ⟨rfl, st, ho, gt, f⟩
      replace GTc := hid gt
      replace HOK := hid ho
      replace F := hid (F.out.then f (fun i hi d => by have := HSG.out i d; omega))
      clear gt ho f
      go_wp2_with fail
      refine (look_it GTc.out HOK.out rfl).mono ?_
      rintro e wc ⟨rfl, ho, gt, f⟩
      replace GTc := hid gt
      replace HOK := hid ho
      replace F := hid (F.out.trans f)
      clear gt ho f
      go_wp2_with fail
      refine (gground_any _).mono ?_
      rintro e wg ⟨b, rfl, lr, hb, f1⟩
      have LR1 := hid (lr.fr ((Fr.refl (fun _ => False) wg).alloc (.cells #[.pointer (some ⟨b.D, 0, none⟩), .pointer (some ⟨b.T, 0, none⟩)] 30)) (fun _ _ h => h))
      have F2 := hid (f1.alloc (.cells #[.pointer (some ⟨b.D, 0, none⟩), .pointer (some ⟨b.T, 0, none⟩)] 30))
      have HBB := hid hb
      have PB := hid (fun q u (hu : (#[.pointer (some ⟨b.D, 0, none⟩), .pointer (some ⟨b.T, 0, none⟩)] : Array Value)[q]? = some u) => At.new wg #[.pointer (some ⟨b.D, 0, none⟩), .pointer (some ⟨b.T, 0, none⟩)] 30 (o := q) hu)
      have NL := hid lr.lt
      have HLH : Hid (wg.heap.size < (wg.alloc (.cells #[.pointer (some ⟨b.D, 0, none⟩), .pointer (some ⟨b.T, 0, none⟩)] 30)).heap.size) := by simp [Hid]
      clear lr f1 hb
      go_wp2_with fail
      generalize wg.alloc (.cells #[.pointer (some ⟨b.D, 0, none⟩), .pointer (some ⟨b.T, 0, none⟩)] 30) = wh at *
      generalize wg.heap.size = pD at *
      refine (gnew_any LR1.out).mono ?_
      rintro e wn ⟨G, hG, rfl, gt, f3⟩
      have GTc := hid gt
      have HSG := hid (ready F.out HBB.out F2.out hG)
      have PB := hid (fun q u hu => (PB.out q u hu).fr f3 (fun h => h))
      have NP : Hid (¬ SG b G pD) := fun c => by have hl := (PB.out 0 _ rfl).lt; have hh := HLH.out; rcases c with c | c; exact absurd (NL.out _ c) (by omega); omega
      have F := hid ((F.out.trans F2.out).trans f3)
      have HOK : Hid (okAll fl2 (led0 L.init, ⟨0, 0, 0, 0⟩) = true) := ok2
      obtain ⟨st, hst⟩ : ∃ st : Led × Cts, st = (led0 L.init, ⟨0, 0, 0, 0⟩) := ⟨_, rfl⟩
      have GTc : Hid (GT wn G b st.1 st.2) := by rw [hst]; exact GTc.out
      rw [← hst] at HOK
      clear hst gt f3 hG LR1 F2 HBB
      have p0 := (PB.out 0 _ rfl).c
      have p1 := (PB.out 1 _ rfl).c
      go_wp2_with fail
      refine (grab_it GTc.out HOK.out).mono ?_
      rintro e wc ⟨rfl, st, ho, gt, f⟩
      replace GTc := hid gt
      replace HOK := hid ho
      replace F := hid (F.out.then f (fun i hi d => by have := HSG.out i d; omega))
      replace PB := hid (fun q u hu => (PB.out q u hu).fr f NP.out)
      clear gt ho f p0 p1
      go_wp2_with fail
      refine (fact_it GTc.out HOK.out).mono ?_
      rintro e wc ⟨rfl, st, ho, gt, f⟩
      replace GTc := hid gt
      replace HOK := hid ho
      replace F := hid (F.out.then f (fun i hi d => by have := HSG.out i d; omega))
      replace PB := hid (fun q u hu => (PB.out q u hu).fr f NP.out)
      clear gt ho f
      go_wp2_with fail
      refine (look_it GTc.out HOK.out rfl).mono ?_
      rintro e wc ⟨rfl, ho, gt, f⟩
      replace GTc := hid gt
      replace HOK := hid ho
      replace F := hid (F.out.trans f)
      replace PB := hid (fun q u hu => (PB.out q u hu).fr f (fun h => h))
      clear gt ho f
      go_wp2_with fail
      refine (fact_it GTc.out HOK.out).mono ?_
      rintro e wc ⟨rfl, st, ho, gt, f⟩
      replace GTc := hid gt
      replace HOK := hid ho
      replace F := hid (F.out.then f (fun i hi d => by have := HSG.out i d; omega))
      replace PB := hid (fun q u hu => (PB.out q u hu).fr f NP.out)
      clear gt ho f
      go_wp2_with fail
      refine (fact_it GTc.out HOK.out).mono ?_
      rintro e wc ⟨rfl, st, ho, gt, f⟩
      replace GTc := hid gt
      replace HOK := hid ho
      replace F := hid (F.out.then f (fun i hi d => by have := HSG.out i d; omega))
      replace PB := hid (fun q u hu => (PB.out q u hu).fr f NP.out)
      clear gt ho f
      go_wp2_with fail
      refine (look_it GTc.out HOK.out rfl).mono ?_
      rintro e wc ⟨rfl, ho, gt, f⟩
      replace GTc := hid gt
      replace HOK := hid ho
      replace F := hid (F.out.trans f)
      replace PB := hid (fun q u hu => (PB.out q u hu).fr f (fun h => h))
      clear gt ho f
      go_wp2_with fail
      refine (fact_it GTc.out HOK.out).mono ?_
      rintro e wc ⟨rfl, st, ho, gt, f⟩
      replace GTc := hid gt
      replace HOK := hid ho
      replace F := hid (F.out.then f (fun i hi d => by have := HSG.out i d; omega))
      replace PB := hid (fun q u hu => (PB.out q u hu).fr f NP.out)
      clear gt ho f
      go_wp2_with fail
      refine (look_it GTc.out HOK.out rfl).mono ?_
      rintro e wc ⟨rfl, ho, gt, f⟩
      replace GTc := hid gt
      replace HOK := hid ho
      replace F := hid (F.out.trans f)
      replace PB := hid (fun q u hu => (PB.out q u hu).fr f (fun h => h))
      clear gt ho f
      go_wp2_with fail
      refine (fact_it GTc.out HOK.out).mono ?_
      rintro e wc ⟨rfl, st, ho, gt, f⟩
      replace GTc := hid gt
      replace HOK := hid ho
      replace F := hid (F.out.then f (fun i hi d => by have := HSG.out i d; omega))
      replace PB := hid (fun q u hu => (PB.out q u hu).fr f NP.out)
      clear gt ho f
      have p0 := (PB.out 0 _ rfl).c
      have p1 := (PB.out 1 _ rfl).c
      go_wp2_with fail
      refine (drop_it GTc.out HOK.out).mono ?_
      rintro e wc ⟨rfl, st, ho, gt, f⟩
      replace GTc := hid gt
      replace HOK := hid ho
      replace F := hid (F.out.then f (fun i hi d => by have := HSG.out i d; omega))
      replace PB := hid (fun q u hu => (PB.out q u hu).fr f NP.out)
      clear gt ho f p0 p1
      go_wp2_with fail
      refine (fact_it GTc.out HOK.out).mono ?_
      rintro e wc ⟨rfl, st, ho, gt, f⟩
      replace GTc := hid gt
      replace HOK := hid ho
      replace F := hid (F.out.then f (fun i hi d => by have := HSG.out i d; omega))
      replace PB := hid (fun q u hu => (PB.out q u hu).fr f NP.out)
      clear gt ho f
      go_wp2_with fail
      refine (look_it GTc.out HOK.out rfl).mono ?_
      rintro e wc ⟨rfl, ho, gt, f⟩
      replace GTc := hid gt
      replace HOK := hid ho
      replace F := hid (F.out.trans f)
      replace PB := hid (fun q u hu => (PB.out q u hu).fr f (fun h => h))
      clear gt ho f
      go_wp2_with fail
      refine (gground_any _).mono ?_
      rintro e wg ⟨b, rfl, lr, hb, f1⟩
      have LR1 := hid (lr.fr ((Fr.refl (fun _ => False) wg).alloc (.cells #[.pointer (some ⟨b.D, 0, none⟩), .pointer (some ⟨b.T, 0, none⟩)] 30)) (fun _ _ h => h))
      have F2 := hid (f1.alloc (.cells #[.pointer (some ⟨b.D, 0, none⟩), .pointer (some ⟨b.T, 0, none⟩)] 30))
      have HBB := hid hb
      skip
      skip
      skip
      clear lr f1 hb
      go_wp2_with fail
      generalize wg.alloc (.cells #[.pointer (some ⟨b.D, 0, none⟩), .pointer (some ⟨b.T, 0, none⟩)] 30) = wh at *
      skip
      refine (gnew_any LR1.out).mono ?_
      rintro e wn ⟨G, hG, rfl, gt, f3⟩
      have GTc := hid gt
      have HSG := hid (ready F.out HBB.out F2.out hG)
      skip
      skip
      have F := hid ((F.out.trans F2.out).trans f3)
      have HOK : Hid (okAll fl3 (led0 L.init, ⟨0, 0, 0, 0⟩) = true) := ok3
      obtain ⟨st, hst⟩ : ∃ st : Led × Cts, st = (led0 L.init, ⟨0, 0, 0, 0⟩) := ⟨_, rfl⟩
      have GTc : Hid (GT wn G b st.1 st.2) := by rw [hst]; exact GTc.out
      rw [← hst] at HOK
      clear hst gt f3 hG LR1 F2 HBB
      go_wp2_with fail
      refine (fact_it GTc.out HOK.out).mono ?_
      rintro e wc ⟨rfl, st, ho, gt, f⟩
      replace GTc := hid gt
      replace HOK := hid ho
      replace F := hid (F.out.then f (fun i hi d => by have := HSG.out i d; omega))
      clear gt ho f
      go_wp2_with fail
      refine (fact_it GTc.out HOK.out).mono ?_
      rintro e wc ⟨rfl, st, ho, gt, f⟩
      replace GTc := hid gt
      replace HOK := hid ho
      replace F := hid (F.out.then f (fun i hi d => by have := HSG.out i d; omega))
      clear gt ho f
      go_wp2_with fail
      refine (fact_it GTc.out HOK.out).mono ?_
      rintro e wc ⟨rfl, st, ho, gt, f⟩
      replace GTc := hid gt
      replace HOK := hid ho
      replace F := hid (F.out.then f (fun i hi d => by have := HSG.out i d; omega))
      clear gt ho f
      go_wp2_with fail
      refine (fact_it GTc.out HOK.out).mono ?_
      rintro e wc ⟨rfl, st, ho, gt, f⟩
      replace GTc := hid gt
      replace HOK := hid ho
      replace F := hid (F.out.then f (fun i hi d => by have := HSG.out i d; omega))
      clear gt ho f
      go_wp2_with fail
      refine (look_it GTc.out HOK.out rfl).mono ?_
      rintro e wc ⟨rfl, ho, gt, f⟩
      replace GTc := hid gt
      replace HOK := hid ho
      replace F := hid (F.out.trans f)
      clear gt ho f
      go_wp2_with fail
      refine (fact_it GTc.out HOK.out).mono ?_
      rintro e wc ⟨rfl, st, ho, gt, f⟩
      replace GTc := hid gt
      replace HOK := hid ho
      replace F := hid (F.out.then f (fun i hi d => by have := HSG.out i d; omega))
      clear gt ho f
      go_wp2_with fail
      refine (fact_it GTc.out HOK.out).mono ?_
      rintro e wc ⟨rfl, st, ho, gt, f⟩
      replace GTc := hid gt
      replace HOK := hid ho
      replace F := hid (F.out.then f (fun i hi d => by have := HSG.out i d; omega))
      clear gt ho f
      go_wp2_with fail
      refine (look_it GTc.out HOK.out rfl).mono ?_
      rintro e wc ⟨rfl, ho, gt, f⟩
      replace GTc := hid gt
      replace HOK := hid ho
      replace F := hid (F.out.trans f)
      clear gt ho f
      go_wp2_with fail
      refine (fact_it GTc.out HOK.out).mono ?_
      rintro e wc ⟨rfl, st, ho, gt, f⟩
      replace GTc := hid gt
      replace HOK := hid ho
      replace F := hid (F.out.then f (fun i hi d => by have := HSG.out i d; omega))
      clear gt ho f
      go_wp2_with fail
      refine (look_it GTc.out HOK.out rfl).mono ?_
      rintro e wc ⟨rfl, ho, gt, f⟩
      replace GTc := hid gt
      replace HOK := hid ho
      replace F := hid (F.out.trans f)
      clear gt ho f
      go_wp2_with fail
      refine (fact_it GTc.out HOK.out).mono ?_
      rintro e wc ⟨rfl, st, ho, gt, f⟩
      replace GTc := hid gt
      replace HOK := hid ho
      replace F := hid (F.out.then f (fun i hi d => by have := HSG.out i d; omega))
      clear gt ho f
      go_wp2_with fail
      refine (look_it GTc.out HOK.out rfl).mono ?_
      rintro e wc ⟨rfl, ho, gt, f⟩
      replace GTc := hid gt
      replace HOK := hid ho
      replace F := hid (F.out.trans f)
      clear gt ho f
      go_wp2_with fail
      refine (fact_it GTc.out HOK.out).mono ?_
      rintro e wc ⟨rfl, st, ho, gt, f⟩
      replace GTc := hid gt
      replace HOK := hid ho
      replace F := hid (F.out.then f (fun i hi d => by have := HSG.out i d; omega))
      clear gt ho f
      go_wp2_with fail
      refine (look_it GTc.out HOK.out rfl).mono ?_
      rintro e wc ⟨rfl, ho, gt, f⟩
      replace GTc := hid gt
      replace HOK := hid ho
      replace F := hid (F.out.trans f)
      clear gt ho f
      go_wp2_with fail
      refine (fact_it GTc.out HOK.out).mono ?_
      rintro e wc ⟨rfl, st, ho, gt, f⟩
      replace GTc := hid gt
      replace HOK := hid ho
      replace F := hid (F.out.then f (fun i hi d => by have := HSG.out i d; omega))
      clear gt ho f
      go_wp2_with fail
      refine (fact_it GTc.out HOK.out).mono ?_
      rintro e wc ⟨rfl, st, ho, gt, f⟩
      replace GTc := hid gt
      replace HOK := hid ho
      replace F := hid (F.out.then f (fun i hi d => by have := HSG.out i d; omega))
      clear gt ho f
      go_wp2_with fail
      refine (fact_it GTc.out HOK.out).mono ?_
      rintro e wc ⟨rfl, st, ho, gt, f⟩
      replace GTc := hid gt
      replace HOK := hid ho
      replace F := hid (F.out.then f (fun i hi d => by have := HSG.out i d; omega))
      clear gt ho f
      go_wp2_with fail
      refine (look_it GTc.out HOK.out rfl).mono ?_
      rintro e wc ⟨rfl, ho, gt, f⟩
      replace GTc := hid gt
      replace HOK := hid ho
      replace F := hid (F.out.trans f)
      clear gt ho f
      go_wp2_with fail
      refine (fact_it GTc.out HOK.out).mono ?_
      rintro e wc ⟨rfl, st, ho, gt, f⟩
      replace GTc := hid gt
      replace HOK := hid ho
      replace F := hid (F.out.then f (fun i hi d => by have := HSG.out i d; omega))
      clear gt ho f
      go_wp2_with fail
      refine (look_it GTc.out HOK.out rfl).mono ?_
      rintro e wc ⟨rfl, ho, gt, f⟩
      replace GTc := hid gt
      replace HOK := hid ho
      replace F := hid (F.out.trans f)
      clear gt ho f
      obtain ⟨rs, hrs⟩ : ∃ rs : List Item, okAll (List.replicate 101 (.fact ⟨#[88, 48, 49, 53, 48, 59]⟩ ⟨#[35, 48]⟩ 7) ++ rs) st = true ∧ rs = [.look ⟨#[111, 107, 61, 52, 32, 98, 97, 100, 61, 50, 32, 101, 114, 114, 61, 57, 57, 32, 105, 110, 116, 61, 48, 32, 124, 32, 98, 97, 108, 61, 57, 51, 44, 50, 48, 54, 44, 48, 44, 49, 48, 49, 44, 32, 117, 110, 100, 111, 110, 101, 61, 57, 57, 32, 124, 32, 111, 112, 101, 110, 61, 48, 48, 48, 48, 32, 103, 101, 110, 61, 51, 48, 50, 51, 32, 116, 114, 97, 99, 101, 61, 65, 48, 65, 49, 82, 49, 82, 48]⟩, .fact ⟨#[84, 48, 51, 48, 49, 48]⟩ ⟨#[56, 51]⟩ 0, .fact ⟨#[84, 48, 51, 48, 48, 48, 49]⟩ ⟨#[64, 54]⟩ 8, .fact ⟨#[84, 48, 51, 53, 49, 51]⟩ ⟨#[]⟩ 6, .look ⟨#[111, 107, 61, 53, 32, 98, 97, 100, 61, 51, 32, 101, 114, 114, 61, 57, 57, 32, 105, 110, 116, 61, 48, 32, 124, 32, 98, 97, 108, 61, 56, 51, 44, 50, 48, 54, 44, 48, 44, 49, 49, 49, 44, 32, 117, 110, 100, 111, 110, 101, 61, 57, 57, 32, 124, 32, 111, 112, 101, 110, 61, 48, 48, 48, 48, 32, 103, 101, 110, 61, 49, 48, 50, 49, 32, 116, 114, 97, 99, 101, 61, 65, 48, 65, 51, 82, 51, 82, 48]⟩] := ⟨_, HOK.out, rfl⟩
      go_wp2_with fail
      go_loopw [13] (fun i wr => ∃ (k : Nat) (st : Led × Cts), k ≤ 101 ∧ i = .int .i64 (k : Int) ∧ okAll (List.replicate (101 - k) (.fact ⟨#[88, 48, 49, 53, 48, 59]⟩ ⟨#[35, 48]⟩ 7) ++ rs) st = true ∧ GT wr G b st.1 st.2 ∧ Fr (fun _ => False) w wr) (fun i _ => 101 - (intOf i).toNat)
      case atStart => exact ⟨0, st, by omega, rfl, hrs.1, GTc.out, F.out⟩
      case round =>
        obtain ⟨k, st, hk, rfl, ho, gt, fr⟩ := hrel
        have GTc := hid gt
        have F := hid fr
        have HO := hid ho
        have HRS := hid hrs.2
        have hk0 : (0 : Int) ≤ (k : Int) := by omega
        clear gt fr ho hrs
        by_cases hlt : k < 101
        · have hltI : (k : Int) < 101 := by omega
          have HOK : Hid (okAll (.fact ⟨#[88, 48, 49, 53, 48, 59]⟩ ⟨#[35, 48]⟩ 7 :: (List.replicate (101 - (k + 1)) (.fact ⟨#[88, 48, 49, 53, 48, 59]⟩ ⟨#[35, 48]⟩ 7) ++ rs)) st = true) := by
            have := HO.out
            rw [show 101 - k = (101 - (k + 1)) + 1 by omega, List.replicate_succ] at this
            exact this
          go_wp2_with fail
          refine (fact_it GTc.out HOK.out).mono ?_
          rintro e wc ⟨rfl, st, ho, gt, f⟩
          have GTd := hid gt
          have HOD := hid ho
          have FD := hid (F.out.then f (fun i hi d => by have := HSG.out i d; omega))
          clear gt ho f
          go_wp2_with fail
          exact ⟨⟨k + 1, st, by omega, by go_num, HOD.out, GTd.out, FD.out⟩, by simp [intOf]; omega⟩
        · have hltI : ¬ (k : Int) < 101 := by omega
          obtain rfl : k = 101 := by omega
          have HOK : Hid (okAll ([.look ⟨#[111, 107, 61, 52, 32, 98, 97, 100, 61, 50, 32, 101, 114, 114, 61, 57, 57, 32, 105, 110, 116, 61, 48, 32, 124, 32, 98, 97, 108, 61, 57, 51, 44, 50, 48, 54, 44, 48, 44, 49, 48, 49, 44, 32, 117, 110, 100, 111, 110, 101, 61, 57, 57, 32, 124, 32, 111, 112, 101, 110, 61, 48, 48, 48, 48, 32, 103, 101, 110, 61, 51, 48, 50, 51, 32, 116, 114, 97, 99, 101, 61, 65, 48, 65, 49, 82, 49, 82, 48]⟩, .fact ⟨#[84, 48, 51, 48, 49, 48]⟩ ⟨#[56, 51]⟩ 0, .fact ⟨#[84, 48, 51, 48, 48, 48, 49]⟩ ⟨#[64, 54]⟩ 8, .fact ⟨#[84, 48, 51, 53, 49, 51]⟩ ⟨#[]⟩ 6, .look ⟨#[111, 107, 61, 53, 32, 98, 97, 100, 61, 51, 32, 101, 114, 114, 61, 57, 57, 32, 105, 110, 116, 61, 48, 32, 124, 32, 98, 97, 108, 61, 56, 51, 44, 50, 48, 54, 44, 48, 44, 49, 49, 49, 44, 32, 117, 110, 100, 111, 110, 101, 61, 57, 57, 32, 124, 32, 111, 112, 101, 110, 61, 48, 48, 48, 48, 32, 103, 101, 110, 61, 49, 48, 50, 49, 32, 116, 114, 97, 99, 101, 61, 65, 48, 65, 51, 82, 51, 82, 48]⟩]) st = true) := by
            have := HO.out
            rw [HRS.out] at this
            exact this
          clear HO HRS hlt hk
          go_wp2_with fail
          refine (look_it GTc.out HOK.out rfl).mono ?_
          rintro e wc ⟨rfl, ho, gt, f⟩
          replace GTc := hid gt
          replace HOK := hid ho
          replace F := hid (F.out.trans f)
          clear gt ho f
          go_wp2_with fail
          refine (fact_it GTc.out HOK.out).mono ?_
          rintro e wc ⟨rfl, st, ho, gt, f⟩
          replace GTc := hid gt
          replace HOK := hid ho
          replace F := hid (F.out.then f (fun i hi d => by have := HSG.out i d; omega))
          clear gt ho f
          go_wp2_with fail
          refine (fact_it GTc.out HOK.out).mono ?_
          rintro e wc ⟨rfl, st, ho, gt, f⟩
          replace GTc := hid gt
          replace HOK := hid ho
          replace F := hid (F.out.then f (fun i hi d => by have := HSG.out i d; omega))
          clear gt ho f
          go_wp2_with fail
          refine (fact_it GTc.out HOK.out).mono ?_
          rintro e wc ⟨rfl, st, ho, gt, f⟩
          replace GTc := hid gt
          replace HOK := hid ho
          replace F := hid (F.out.then f (fun i hi d => by have := HSG.out i d; omega))
          clear gt ho f
          go_wp2_with fail
          refine (look_it GTc.out HOK.out rfl).mono ?_
          rintro e wc ⟨rfl, ho, gt, f⟩
          replace GTc := hid gt
          replace HOK := hid ho
          replace F := hid (F.out.trans f)
          clear gt ho f
          go_wp2_with fail
          go_ret
          exact ⟨rfl, F.out⟩

theorem gfacts_walk (w : World) : Calls Try.prog 8 #[] w fun e w' => e = .returned (.bool true) ∧ Fr (fun _ => False) w w' := by
  go_enter Try.func8, Try.ntmps8
  go_wp2_with fail
  refine (gfacts_any w).mono ?_
  rintro e w1 ⟨rfl, f1⟩
  go_wp2_with fail
  go_ret
  exact ⟨rfl, f1⟩

end Go.Proofs.Qxb6500452a
