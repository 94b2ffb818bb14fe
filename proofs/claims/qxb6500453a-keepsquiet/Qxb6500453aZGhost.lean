/- The law's own books: the ghost; Fresh, Ev, Ev2, Plain, Pay. -/
import Derived.Test.Qxb6500453aYGrab
import Derived.Test.Qxb6500453aWRep
namespace Go.Proofs.Qxb6500453a
open Go Go.RowKit
set_option maxRecDepth 100000
set_option maxHeartbeats 1600000
set_option linter.unusedSimpArgs false
set_option linter.unusedVariables false

/-- The ghost: balances, roll-backs, the locks that the law itself holds, their handles. -/
structure GH (w : World) (P : Nat) (bal : Nat → Int) (un : Nat) (mine : Nat → Bool) (v : Value) : Prop where
  gb : ∀ k, k < 4 → At w P k (.int .i64 (bal k))
  gu : At w P 4 (.int .i64 (un : Int))
  gm : ∀ k, k < 4 → At w P (5 + k) (.bool (mine k))
  gh : At w P 9 v
theorem GH.fr {w w' : World} {P : Nat} {bal : Nat → Int} {un : Nat} {mine : Nat → Bool} {v : Value} (h : GH w P bal un mine v) {S : Nat → Prop} (hf : Fr S w w') (hn : ¬ S P) : GH w' P bal un mine v :=
  ⟨fun k hk => (h.gb k hk).fr hf hn, h.gu.fr hf hn, fun k hk => (h.gm k hk).fr hf hn, h.gh.fr hf hn⟩
theorem GH.lt {w : World} {P : Nat} {bal : Nat → Int} {un : Nat} {mine : Nat → Bool} {v : Value} (h : GH w P bal un mine v) : P < w.heap.size := h.gu.lt

theorem fresh_any (w : World) : Calls Try.prog 22 #[] w fun e w' => ∃ P, w.heap.size ≤ P ∧ e = .returned (.pointer (some ⟨P, 0, none⟩)) ∧ GH w' P (fun _ => 100) 0 (fun _ => false) (.slice none 0 0) ∧ Fr (fun _ => False) w w' := by
  go_enter Try.func22, Try.ntmps22
  go_wp2_with fail
  have am : ∀ k v, (#[.int .i64 0, .int .i64 0, .int .i64 0, .int .i64 0, .int .i64 0, .bool false, .bool false, .bool false, .bool false, .slice none 0 0] : Array Value)[k]? = some v → At (w.alloc (.cells #[.int .i64 0, .int .i64 0, .int .i64 0, .int .i64 0, .int .i64 0, .bool false, .bool false, .bool false, .bool false, .slice none 0 0] 58)) w.heap.size k v := fun k v hv => At.new w _ _ hv
  have AM := hid am
  have F0 := hid ((Fr.refl (fun _ => False) w).alloc (.cells #[.int .i64 0, .int .i64 0, .int .i64 0, .int .i64 0, .int .i64 0, .bool false, .bool false, .bool false, .bool false, .slice none 0 0] 58))
  clear am
  generalize w.alloc (.cells #[.int .i64 0, .int .i64 0, .int .i64 0, .int .i64 0, .int .i64 0, .bool false, .bool false, .bool false, .bool false, .slice none 0 0] 58) = w1 at *
  obtain ⟨P, hP⟩ : ∃ P, P = w.heap.size := ⟨_, rfl⟩
  rw [← hP] at AM ⊢
  have HP := hid hP
  clear hP
  go_loopw [2] (fun i wr => ∃ n : Nat, n ≤ 4 ∧ i = .int .i64 (n : Int) ∧ GH wr P (fun k => if k < n then 100 else 0) 0 (fun _ => false) (.slice none 0 0) ∧ Fr (fun _ => False) w wr) (fun i _ => 4 - (intOf i).toNat)
  case atStart =>
    refine ⟨0, by omega, rfl, ⟨fun k hk => ?_, AM.out 4 _ rfl, fun k hk => ?_, AM.out 9 _ rfl⟩, F0.out⟩
    · have : k = 0 ∨ k = 1 ∨ k = 2 ∨ k = 3 := by omega
      rcases this with rfl | rfl | rfl | rfl <;> exact AM.out _ _ rfl
    · have : k = 0 ∨ k = 1 ∨ k = 2 ∨ k = 3 := by omega
      rcases this with rfl | rfl | rfl | rfl <;> exact AM.out _ _ rfl
  case round =>
    clear AM F0
    obtain ⟨n, hn, rfl, hg, hf⟩ := hrel
    have HG := hid hg
    have HF := hid hf
    have hn0 : (0 : Int) ≤ (n : Int) := by omega
    by_cases hlt : n < 4
    · have hltI : (n : Int) < 4 := by omega
      have c := (hg.gb n hlt).c
      have x := (hg.gb n hlt).f
      clear hg hf
      go_wp2_with fail
      have hp := HP.out
      refine ⟨⟨n + 1, by omega, by go_num, ⟨fun k hk => ?_, HG.out.gu.other (by omega) _, fun k hk => (HG.out.gm k hk).other (by omega) _, HG.out.gh.other (by omega) _⟩, HF.out.setN (by omega) _ _⟩, by simp [intOf]; omega⟩
      by_cases e : k = n
      · subst e
        exact ((HG.out.gb k hk).same _).val (by simp)
      · exact ((HG.out.gb k hk).other (by omega) _).val (by
          by_cases c : k < n
          · rw [if_pos c, if_pos (by omega)]
          · rw [if_neg c, if_neg (by omega)])
    · have hltI : ¬ (n : Int) < 4 := by omega
      obtain rfl : n = 4 := by omega
      clear hg hf
      go_wp2_with fail
      go_ret
      refine ⟨P, by have := HP.out; omega, rfl, ⟨fun k hk => (HG.out.gb k hk).val (by rw [if_pos hk]), HG.out.gu, HG.out.gm, HG.out.gh⟩, HF.out⟩

theorem ev_any (c : UInt8) {k : Nat} (hk : k < 4) (w : World) : Calls Try.prog 74 #[.int .u8 (c.toNat : Int), .int .i64 (k : Int)] w fun e w' => e = .returned (.string (L.bs [c, L.dig k])) ∧ Fr (fun _ => False) w w' := by
  have hk' : (k : Int) < 4 := by omega
  have hk0 : (0 : Int) ≤ k := by omega
  have hcv : (convert 86 9 (.slice (some ⟨w.heap.size, 0, none⟩) 2 2)).run Try.prog (w.alloc (.cells #[.int .u8 (c.toNat : Int), .int .u8 (48 + (k : Int))] 5)) = .ok (.string (L.bs [c, L.dig k])) (w.alloc (.cells #[.int .u8 (c.toNat : Int), .int .u8 (48 + (k : Int))] 5)) := by
    refine run_convert_bytes_back (P := Try.prog) _ 86 9 5 ⟨w.heap.size, 0, none⟩ 2 [c, L.dig k] Try.underlying86 Try.underlying5 Try.underlying9 ?_
    intro j hj
    have : j = 0 ∨ j = 1 := by simp at hj; omega
    rw [add_addr, Nat.zero_add, World.cell?_alloc_new]
    rcases this with h | h <;> subst h
    · simp
    · simp [dig_toNat k (by omega)]
  go_enter Try.func74, Try.ntmps74
  go_wp2_with fail
  go_ret
  exact ⟨rfl, (Fr.refl _ _).alloc _⟩

theorem ev2_any (c d : UInt8) {k l : Nat} (hk : k < 4) (hl : l < 4) (w : World) : Calls Try.prog 71 #[.int .u8 (c.toNat : Int), .int .i64 (k : Int), .int .u8 (d.toNat : Int), .int .i64 (l : Int)] w fun e w' => e = .returned (.string (L.bs [c, L.dig k, d, L.dig l])) ∧ Fr (fun _ => False) w w' := by
  have hk' : (k : Int) < 4 := by omega
  have hk0 : (0 : Int) ≤ k := by omega
  have hl' : (l : Int) < 4 := by omega
  have hl0 : (0 : Int) ≤ l := by omega
  have hcv : (convert 86 9 (.slice (some ⟨w.heap.size, 0, none⟩) 4 4)).run Try.prog (w.alloc (.cells #[.int .u8 (c.toNat : Int), .int .u8 (48 + (k : Int)), .int .u8 (d.toNat : Int), .int .u8 (48 + (l : Int))] 5)) = .ok (.string (L.bs [c, L.dig k, d, L.dig l])) (w.alloc (.cells #[.int .u8 (c.toNat : Int), .int .u8 (48 + (k : Int)), .int .u8 (d.toNat : Int), .int .u8 (48 + (l : Int))] 5)) := by
    refine run_convert_bytes_back (P := Try.prog) _ 86 9 5 ⟨w.heap.size, 0, none⟩ 4 [c, L.dig k, d, L.dig l] Try.underlying86 Try.underlying5 Try.underlying9 ?_
    intro j hj
    have : j = 0 ∨ j = 1 ∨ j = 2 ∨ j = 3 := by simp at hj; omega
    rw [add_addr, Nat.zero_add, World.cell?_alloc_new]
    rcases this with h | h | h | h <;> subst h
    · simp
    · simp [dig_toNat k (by omega)]
    · simp
    · simp [dig_toNat l (by omega)]
  go_enter Try.func71, Try.ntmps71
  go_wp2_with fail
  go_ret
  exact ⟨rfl, (Fr.refl _ _).alloc _⟩

theorem plain_any (f t a : Int) (w : World) : Calls Try.prog 72 #[.agg #[.int .i64 f, .int .i64 t, .int .i64 a]] w fun e w' => e = .returned (.int .i64 (chk f t a)) ∧ Fr (fun _ => False) w w' := by
  have fa : ∀ c, Fr (fun _ => False) w (w.alloc c) := fun c => (Fr.refl _ _).alloc _
  by_cases f0 : f < 0
  · have HE : Hid (chk f t a = 2) := by unfold Hid chk; rw [if_neg (by rintro ⟨h1, h2, h3, h4⟩; simp [goodB] at h1 h2; omega)]
    go_enter Try.func72, Try.ntmps72
    go_wp2_with fail
    go_ret
    rw [HE.out]
    exact ⟨rfl, fa _⟩
  have f0' : 0 ≤ f := by omega
  by_cases f4 : 4 ≤ f
  · have HE : Hid (chk f t a = 2) := by unfold Hid chk; rw [if_neg (by rintro ⟨h1, h2, h3, h4⟩; simp [goodB] at h1 h2; omega)]
    go_enter Try.func72, Try.ntmps72
    go_wp2_with fail
    go_ret
    rw [HE.out]
    exact ⟨rfl, fa _⟩
  have f4' : f < 4 := by omega
  by_cases t0 : t < 0
  · have HE : Hid (chk f t a = 2) := by unfold Hid chk; rw [if_neg (by rintro ⟨h1, h2, h3, h4⟩; simp [goodB] at h1 h2; omega)]
    go_enter Try.func72, Try.ntmps72
    go_wp2_with fail
    go_ret
    rw [HE.out]
    exact ⟨rfl, fa _⟩
  have t0' : 0 ≤ t := by omega
  by_cases t4 : 4 ≤ t
  · have HE : Hid (chk f t a = 2) := by unfold Hid chk; rw [if_neg (by rintro ⟨h1, h2, h3, h4⟩; simp [goodB] at h1 h2; omega)]
    go_enter Try.func72, Try.ntmps72
    go_wp2_with fail
    go_ret
    rw [HE.out]
    exact ⟨rfl, fa _⟩
  have t4' : t < 4 := by omega
  by_cases a0 : a < 1
  · have HE : Hid (chk f t a = 2) := by unfold Hid chk; rw [if_neg (by rintro ⟨h1, h2, h3, h4⟩; simp [goodB] at h1 h2; omega)]
    go_enter Try.func72, Try.ntmps72
    go_wp2_with fail
    go_ret
    rw [HE.out]
    exact ⟨rfl, fa _⟩
  by_cases a9 : 999 < a
  · have HE : Hid (chk f t a = 2) := by unfold Hid chk; rw [if_neg (by rintro ⟨h1, h2, h3, h4⟩; simp [goodB] at h1 h2; omega)]
    go_enter Try.func72, Try.ntmps72
    go_wp2_with fail
    go_ret
    rw [HE.out]
    exact ⟨rfl, fa _⟩
  by_cases e : f = t
  · subst e
    have HE : Hid (chk f f a = 3) := by unfold Hid chk; rw [if_pos ⟨by simp [goodB]; omega, by simp [goodB]; omega, by omega, by omega⟩, if_pos rfl]
    go_enter Try.func72, Try.ntmps72
    go_wp2_with fail
    go_ret
    rw [HE.out]
    exact ⟨rfl, fa _⟩
  · have HE : Hid (chk f t a = 0) := by unfold Hid chk; rw [if_pos ⟨by simp [goodB]; omega, by simp [goodB]; omega, by omega, by omega⟩, if_neg e]
    have eb : (f == t) = false := by simp [e]
    clear e
    go_enter Try.func72, Try.ntmps72
    go_wp2_with fail
    go_ret
    rw [HE.out]
    exact ⟨rfl, fa _⟩

theorem gpay_any {w : World} {B off : Nat} {bal : Nat → Int} (hb : ∀ k, k < 4 → At w B (off + k) (.int .i64 (bal k))) {f t : Nat} (hf : f < 4) (ht : t < 4) (hft : f ≠ t) {a : Int} (a1 : 1 ≤ a) (a2 : a ≤ 999) (hbl : ∀ k, k < 4 → 0 ≤ bal k ∧ bal k ≤ 250) :
    Calls Try.prog 73 #[.pointer (some ⟨B, off, none⟩), .agg #[.int .i64 (f : Int), .int .i64 (t : Int), .int .i64 a]] w fun e w' => e = .returned (.int .i64 (payE bal f t a)) ∧
      (∀ k, k < 4 → At w' B (off + k) (.int .i64 (payM bal f t a k))) ∧ (∀ o v, (o < off ∨ off + 4 ≤ o) → At w B o v → At w' B o v) ∧ Fr (fun i => i = B) w w' := by
  have bf := hb f hf
  have bt := hb t ht
  have HB := hid hb
  have hB : B < w.heap.size := bf.lt
  have cf := bf.c
  have ct := bt.c
  have xf := bf.f
  have xt := bt.f
  have h1 := hbl f hf
  have h2 := hbl t ht
  have hf0 : (0 : Int) ≤ (f : Int) := by omega
  have hf4 : (f : Int) < 4 := by omega
  have ht0 : (0 : Int) ≤ (t : Int) := by omega
  have ht4 : (t : Int) < 4 := by omega
  have FA : ∀ c, Hid (Fr (fun i => i = B) w (w.alloc c)) := fun c => (Fr.refl _ _).alloc _
  have AA : ∀ c k, k < 4 → Hid (At (w.alloc c) B (off + k) (.int .i64 (bal k))) := fun c k hk => (hb k hk).alloc _
  clear bf bt hb hbl
  by_cases c1 : bal f < a
  · have HE : Hid (payE bal f t a = 6 ∧ payM bal f t a = bal) := by simp [Hid, payE, payM, c1]
    rw [HE.out.1, HE.out.2]
    clear HE
    go_enter Try.func73, Try.ntmps73
    go_upto_region 1 with fail
    go_region
    go_wp2_with fail
    go_ret
    exact ⟨rfl, fun k hk => (((HB.out k hk).alloc _).drew), fun o v _ h => (h.alloc _).drew, ((Fr.refl _ _).alloc _).drew⟩
  by_cases c2 : 250 < bal t + a
  · have HE : Hid (payE bal f t a = 7 ∧ payM bal f t a = bal) := by simp [Hid, payE, payM, c1, c2]
    rw [HE.out.1, HE.out.2]
    clear HE
    go_enter Try.func73, Try.ntmps73
    go_upto_region 1 with fail
    go_region
    go_upto_region 3 with fail
    go_region
    go_wp2_with fail
    go_ret
    exact ⟨rfl, fun k hk => (((HB.out k hk).alloc _).drew).drew, fun o v _ h => (h.alloc _).drew.drew, ((Fr.refl _ _).alloc _).drew.drew⟩
  · have HE : Hid (payE bal f t a = 0 ∧ payM bal f t a = updI (updI bal f (bal f - a)) t (bal t + a)) := by simp [Hid, payE, payM, payB, c1, c2]
    rw [HE.out.1, HE.out.2]
    clear HE
    go_enter Try.func73, Try.ntmps73
    go_upto_region 1 with fail
    go_region
    go_upto_region 3 with fail
    go_region
    go_upto_region 5 with fail
    go_region
    go_upto_region 6 with fail
    go_region
    go_wp2_with fail
    go_ret
    refine ⟨rfl, fun k hk => ?_, fun o v ho h => ((((h.other (by omega) _).other (by omega) _).alloc _).drew.drew.drew.drew), ((((Fr.refl (fun i => i = B) w).setCell (p := ⟨B, off + f, none⟩) (fun _ => rfl) _).setCell (p := ⟨B, off + t, none⟩) (fun _ => rfl) _).alloc _).drew.drew.drew.drew⟩
    refine At.drew (At.drew (At.drew (At.drew (At.alloc ?_ _))))
    have hk' := HB.out k hk
    by_cases e1 : k = t
    · subst e1
      exact ((hk'.other (by omega) _).same _).val (by simp [updI])
    · by_cases e2 : k = f
      · subst e2
        exact ((hk'.same _).other (by omega) _).val (by simp [updI, e1])
      · exact ((hk'.other (by omega) _).other (by omega) _).val (by simp [updI, e1, e2])

end Go.Proofs.Qxb6500453a
