/- The closed examples. -/
import Derived.Test.Qxb6500450aQTwin
namespace Go.Proofs.Qxb6500450a
open Go Go.RowKit
set_option maxRecDepth 100000
set_option maxHeartbeats 1600000
set_option linter.unusedSimpArgs false
set_option linter.unusedVariables false
variable {bS bX : Nat}

def abc : ByteArray := ⟨#[97, 98, 32, 99]⟩
def cd2 : ByteArray := ⟨#[99, 32, 100]⟩
def cc1 : ByteArray := ⟨#[99]⟩
def dd1 : ByteArray := ⟨#[100]⟩
def exF : DocF := putD noD 3 1 abc
def exR : Int → Nat := incC (fun _ => 0) 3
def exF2 : DocF := putD exF 1 0 cd2
def exR2 : Int → Nat := incC exR 1
def exF3 : DocF := putD exF2 2 1 cc1
def exR3 : Int → Nat := incC exR2 2
theorem ex_s0 : bs (showI noD (fun _ => 0)) = ⟨#[124, 48, 32, 48, 32, 48, 32, 48, 32, 48, 32, 48, 32, 48, 32, 48, 32, 48, 32, 124, 48, 32, 48, 32, 48, 32, 35]⟩ := by kernel_rfl
theorem ex_e1 : putE noD 3 1 abc = 0 := by kernel_rfl
theorem ex_e2 : putE exF 1 0 cd2 = 0 := by kernel_rfl
theorem ex_e3 : putE exF2 2 1 cc1 = 0 := by kernel_rfl
theorem ex_f1 : putF noD 3 1 abc = exF := by unfold putF; rw [ex_e1]; rfl
theorem ex_r1 : putR noD (fun _ => 0) 3 1 abc = exR := by unfold putR; rw [ex_e1]; rfl
theorem ex_f2 : putF exF 1 0 cd2 = exF2 := by unfold putF; rw [ex_e2]; rfl
theorem ex_r2 : putR exF exR 1 0 cd2 = exR2 := by unfold putR; rw [ex_e2]; rfl
theorem ex_f3 : putF exF2 2 1 cc1 = exF3 := by unfold putF; rw [ex_e3]; rfl
theorem ex_r3 : putR exF2 exR2 2 1 cc1 = exR3 := by unfold putR; rw [ex_e3]; rfl
theorem ex_s1 : bs (showI exF exR) = ⟨#[51, 47, 49, 47, 97, 98, 32, 99, 59, 124, 48, 32, 48, 32, 49, 32, 48, 32, 48, 32, 48, 32, 48, 32, 48, 32, 48, 32, 124, 48, 32, 49, 32, 48, 32, 35, 97, 98, 61, 51, 32, 64, 48, 32, 49, 32, 48, 32, 59, 99, 61, 51, 32, 64, 48, 32, 49, 32, 48, 32, 59]⟩ := by kernel_rfl
theorem ex_t1 : bs (ints (findL exF3 3 cc1 dd1)) = ⟨#[50, 32, 51, 32]⟩ := by kernel_rfl
theorem ex_t2 : bs (cnts (grpsL exF3 cc1)) = ⟨#[48, 58, 49, 32, 49, 58, 50, 32]⟩ := by kernel_rfl
theorem ex_t3 : bs (strs (topL exF3 2)) = ⟨#[99, 32, 97, 98, 32]⟩ := by kernel_rfl
theorem exR_le (k : Int) : exR3 k ≤ 3 ∧ exR2 k ≤ 2 ∧ exR k ≤ 1 := by
  unfold exR3 exR2 exR incC
  refine ⟨?_, ?_, ?_⟩ <;> (repeat' split) <;> simp only [] <;> omega
def st1 : Stp := ⟨4, 3, 0, 0, cc1, dd1⟩
def st2 : Stp := ⟨5, 0, 0, 0, cc1, ⟨#[]⟩⟩
def st3 : Stp := ⟨6, 2, 0, 0, ⟨#[]⟩, ⟨#[]⟩⟩
theorem ex_v1 : doT exF3 exR3 st1 = ⟨#[50, 32, 51, 32]⟩ := by simp only [doT, st1]; exact ex_t1
theorem ex_v2 : doT exF3 exR3 st2 = ⟨#[48, 58, 49, 32, 49, 58, 50, 32]⟩ := by simp only [doT, st2]; exact ex_t2
theorem ex_v3 : doT exF3 exR3 st3 = ⟨#[99, 32, 97, 98, 32]⟩ := by simp only [doT, st3]; exact ex_t3
theorem ex_fr (o : Stp) (h : 4 ≤ o.kind) (h' : o.kind ≤ 6) : doF exF3 o = exF3 ∧ doR exF3 exR3 o = exR3 := by
  refine do_same fun c => ?_
  unfold isCh at c
  omega

theorem ex_step {w0 w : World} {F : Nat → Prop} {bQ : Nat} (h : QR bX bS w F bQ exF3 exR3) (lF : ∀ i, F i → w0.heap.size ≤ i ∧ i < w.heap.size) (f0 : Fr (fun _ => False) w0 w) (o : Stp) (h4 : 4 ≤ o.kind) (h6 : o.kind ≤ 6) {txt : ByteArray} (ht : doT exF3 exR3 o = txt) :
    Calls Try.prog 10 #[.pointer (some ⟨bQ, 0, none⟩), o.val] w fun e w' => ∃ a b c, e = .returned (.agg #[.int .i64 a, .int .i64 b, .int .i64 c, .string txt]) ∧ ∃ F', QR bX bS w' F' bQ exF3 exR3 ∧ (∀ i, F' i → w0.heap.size ≤ i ∧ i < w'.heap.size) ∧ (∀ i, i < w.heap.size → F' i → F i) ∧ Fr F w w' ∧ Fr (fun _ => False) w0 w' := by
  refine (do_any h (fun i hi => (lF i hi).2) (fun k => by have := (exR_le k).1; omega) o).mono ?_
  rintro e w' ⟨rfl, hq, hf⟩
  rw [(ex_fr o h4 h6).1, (ex_fr o h4 h6).2] at hq
  subst ht
  have z := hf.size
  have z0 := f0.size
  refine ⟨_, _, _, rfl, _, hq, fun i hi => ?_, fun i hi hg => ?_, hf, f0.then hf (fun i hi c => by have := (lF i c).1; omega)⟩
  · rcases hi with hi | hi
    · have := lF i hi; omega
    · omega
  · rcases hg with hg | hg
    · exact hg
    · omega

theorem examples_any (w : World) : Calls Try.prog 4 #[] w fun e w' => e = .returned (.bool true) ∧ Fr (fun _ => False) w w' := by
  go_enter Try.func4, Try.ntmps4
  go_wp2_with fail
  refine (ground_any _).mono ?_
  rintro e w1 ⟨bX, bS, rfl, hb, xr, f1⟩
  have F1 := hid (f1.alloc (.cells #[.pointer (some ⟨bX, 0, none⟩)] 27))
  have fb := (Fr.refl (fun _ => False) w1).alloc (.cells #[.pointer (some ⟨bX, 0, none⟩)] 27)
  have HN := hid (qnew_any (xr.frw fb (fun _ _ h => h)) (fun i hi => by have := hi.2; simp; omega))
  have HZ : Hid (w.heap.size ≤ w1.heap.size) := f1.size
  clear xr f1 fb hb
  simp only [bwV]
  go_wp2_with fail
  refine HN.out.mono ?_
  rintro e w2 ⟨rfl, qr, f2⟩
  have Q2 := hid (qr.wide (G := fun i => w.heap.size ≤ i) (fun i hi => by rcases hi with hi | hi; exact hi.1; have := HZ.out; simp at hi; omega))
  have F2 := hid (F1.out.trans f2)
  clear qr f2 HN F1
  generalize (w1.alloc (.cells #[.pointer (some ⟨bX, 0, none⟩)] 27)).heap.size = bQ at *
  go_wp2_with fail
  refine (qshow_any Q2.out (fun _ => by omega)).mono ?_
  rintro e w3 ⟨rfl, f3⟩
  rw [ex_s0]
  have Q3 := hid ((Q2.out.frw f3 (fun _ _ h => h)).bound)
  have F3 := hid (F2.out.trans f3)
  clear f3 Q2 F2
  go_wp2_with fail
  have hp := qput_any Q3.out 3 1 abc (fun _ => by omega)
  simp only [abc] at hp
  refine hp.mono ?_
  clear hp
  rintro e w4 ⟨rfl, x4, f4⟩
  rw [show (⟨#[97, 98, 32, 99]⟩ : ByteArray) = abc from rfl, ex_f1, ex_r1] at x4
  rw [show (⟨#[97, 98, 32, 99]⟩ : ByteArray) = abc from rfl, ex_e1]
  have F4 : Hid (Fr (fun _ => False) w w4) := F3.out.then f4 (fun i hi e => by have e' : w.heap.size ≤ i ∧ _ := e; omega)
  have Q4 := hid ((x4.wide (G := fun i => w.heap.size ≤ i) (fun i hi => by rcases hi with hi | hi; exact hi.1; have := F3.out.size; omega)).bound)
  clear x4 f4 Q3 F3
  go_wp2_with fail
  refine (qshow_any Q4.out (fun k => by have := (exR_le k).2.2; omega)).mono ?_
  rintro e w5 ⟨rfl, f5⟩
  rw [ex_s1]
  have F5 := hid (F4.out.trans f5)
  have Q5 := hid ((Q4.out.frw f5 (fun _ _ h => h)).wide (G := fun i => w.heap.size ≤ i) (fun i hi => hi.1))
  clear f5 F4 Q4
  go_wp2_with fail
  have hp := qput_any Q5.out.bound 1 0 cd2 (fun k => by have := (exR_le k).2.2; omega)
  simp only [cd2] at hp
  refine hp.mono ?_
  clear hp
  rintro e w6 ⟨rfl, x6, f6⟩
  rw [show (⟨#[99, 32, 100]⟩ : ByteArray) = cd2 from rfl, ex_f2, ex_r2] at x6
  have F6 : Hid (Fr (fun _ => False) w w6) := F5.out.then f6 (fun i hi e => by have e' : w.heap.size ≤ i ∧ _ := e; omega)
  have Q6 := hid (x6.wide (G := fun i => w.heap.size ≤ i) (fun i hi => by rcases hi with hi | hi; exact hi.1; have := F5.out.size; omega))
  clear x6 f6 Q5 F5
  go_wp2_with fail
  have hp := qput_any Q6.out.bound 2 1 cc1 (fun k => by have := (exR_le k).2.1; omega)
  simp only [cc1] at hp
  refine hp.mono ?_
  clear hp
  rintro e w7 ⟨rfl, x7, f7⟩
  rw [show (⟨#[99]⟩ : ByteArray) = cc1 from rfl, ex_f3, ex_r3] at x7
  have F7 : Hid (Fr (fun _ => False) w w7) := F6.out.then f7 (fun i hi e => by have e' : w.heap.size ≤ i ∧ _ := e; omega)
  have Q7 := hid (x7.wide (G := fun i => w.heap.size ≤ i) (fun i hi => by rcases hi with hi | hi; exact hi.1; have := F6.out.size; omega))
  clear x7 f7 Q6 F6
  have L7 : Hid (∀ i, (w.heap.size ≤ i ∧ i < w7.heap.size) → w.heap.size ≤ i ∧ i < w7.heap.size) := fun i hi => hi
  have QB := hid Q7.out.bound
  clear Q7
  have hd := ex_step QB.out L7.out F7.out st1 (by decide) (by decide) ex_v1
  simp only [Stp.val, st1, cc1, dd1] at hd
  have HD := hid hd
  clear hd
  go_wp2_with fail
  refine HD.out.mono ?_
  rintro e w8 ⟨a1, b1, c1, rfl, F8, q8, l8, n8, f8, g8⟩
  have fa := (Fr.refl (fun _ => False) w8).alloc (.cells #[.int .i64 a1, .int .i64 b1, .int .i64 c1, .string ⟨#[50, 32, 51, 32]⟩] 35)
  have T1 := hid (AnsAt.new w8 a1 b1 c1 ⟨#[50, 32, 51, 32]⟩).a3
  have Q9 := hid (q8.frw fa (fun _ _ h => h))
  have G9 := hid (g8.trans fa)
  have N9 : Hid (¬ F8 w8.heap.size) := fun c => by have := (l8 _ c).2; omega
  have L9 : Hid (∀ i, F8 i → w.heap.size ≤ i ∧ i < (w8.alloc (.cells #[.int .i64 a1, .int .i64 b1, .int .i64 c1, .string ⟨#[50, 32, 51, 32]⟩] 35)).heap.size) := fun i hi => by have := l8 i hi; simp; omega
  clear q8 l8 n8 f8 g8 fa HD QB L7 F7
  go_upto_region 13 with fail
  generalize w8.alloc (.cells #[.int .i64 a1, .int .i64 b1, .int .i64 c1, .string ⟨#[50, 32, 51, 32]⟩] 35) = w9 at *
  generalize w8.heap.size = p1 at *
  have hd := ex_step Q9.out L9.out G9.out st2 (by decide) (by decide) ex_v2
  simp only [Stp.val, st2, cc1] at hd
  have HD := hid hd
  clear hd
  go_wp2_with fail
  refine HD.out.mono ?_
  rintro e w10 ⟨a2, b2, c2, rfl, F10, q10, l10, n10, f10, g10⟩
  have fa := (Fr.refl (fun _ => False) w10).alloc (.cells #[.int .i64 a2, .int .i64 b2, .int .i64 c2, .string ⟨#[48, 58, 49, 32, 49, 58, 50, 32]⟩] 35)
  have T1b := hid ((T1.out.fr f10 N9.out).fr fa (fun h => h))
  have T2 := hid (AnsAt.new w10 a2 b2 c2 ⟨#[48, 58, 49, 32, 49, 58, 50, 32]⟩).a3
  have Q11 := hid (q10.frw fa (fun _ _ h => h))
  have G11 := hid (g10.trans fa)
  have N11 : Hid (¬ F10 w10.heap.size ∧ ¬ F10 p1) := ⟨fun c => by have := (l10 _ c).2; omega, fun c => N9.out (n10 _ T1.out.lt c)⟩
  have L11 : Hid (∀ i, F10 i → w.heap.size ≤ i ∧ i < (w10.alloc (.cells #[.int .i64 a2, .int .i64 b2, .int .i64 c2, .string ⟨#[48, 58, 49, 32, 49, 58, 50, 32]⟩] 35)).heap.size) := fun i hi => by have := l10 i hi; simp; omega
  clear q10 l10 n10 f10 g10 fa HD Q9 L9 G9 N9 T1
  go_upto_region 14 with fail
  generalize w10.alloc (.cells #[.int .i64 a2, .int .i64 b2, .int .i64 c2, .string ⟨#[48, 58, 49, 32, 49, 58, 50, 32]⟩] 35) = w11 at *
  generalize w10.heap.size = p2 at *
  have hd := ex_step Q11.out L11.out G11.out st3 (by decide) (by decide) ex_v3
  simp only [Stp.val, st3] at hd
  have HD := hid hd
  clear hd
  go_wp2_with fail
  refine HD.out.mono ?_
  rintro e w12 ⟨a3, b3, c3, rfl, F12, q12, l12, n12, f12, g12⟩
  have fa := (Fr.refl (fun _ => False) w12).alloc (.cells #[.int .i64 a3, .int .i64 b3, .int .i64 c3, .string ⟨#[99, 32, 97, 98, 32]⟩] 35)
  have T1c := hid ((T1b.out.fr f12 N11.out.2).fr fa (fun h => h))
  have T2c := hid ((T2.out.fr f12 N11.out.1).fr fa (fun h => h))
  have T3c := hid (AnsAt.new w12 a3 b3 c3 ⟨#[99, 32, 97, 98, 32]⟩).a3
  have G13 := hid (g12.trans fa)
  clear q12 l12 n12 f12 g12 fa HD Q11 L11 G11 N11 T1b T2
  go_upto_region 15 with fail
  generalize w12.alloc (.cells #[.int .i64 a3, .int .i64 b3, .int .i64 c3, .string ⟨#[99, 32, 97, 98, 32]⟩] 35) = w13 at *
  generalize w12.heap.size = p3 at *
  have y1 := T1c.out.c
  have y2 := T2c.out.c
  have y3 := T3c.out.c
  go_wp2_with fail
  go_ret
  exact ⟨rfl, G13.out⟩

end Go.Proofs.Qxb6500450a
