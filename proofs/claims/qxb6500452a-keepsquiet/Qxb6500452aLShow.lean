import Derived.Test.Qxb6500452aLNew
import Derived.Laws.IdiomStrings
namespace Go.Proofs.Qxb6500452a
open Go Go.RowKit
set_option maxRecDepth 100000
set_option maxHeartbeats 800000
set_option linter.unusedSimpArgs false
set_option linter.unusedVariables false

theorem add_addr (b o j : Nat) : (⟨b, o, none⟩ : Addr).add j = ⟨b, o + j, none⟩ := by
  unfold Addr.add; split
  · rename_i h; subst h; rfl
  · rfl

theorem dig_toNat (n : Nat) (hn : n < 10) : ((L.dig n).toNat : Int) = 48 + (n : Int) := by
  simp [L.dig]; omega

theorem itoa_small (n : Nat) (hn : n < 10) (w : World) :
    Calls Try.prog 32 #[.int .i64 n] w fun e w' => e = .returned (.string (L.bs [L.dig n])) ∧ Fr (fun _ => False) w w' := by
  have h0 : (0 : Int) ≤ n := by omega
  have h1 : (n : Int) < 10 := by omega
  have hcv : (convert 84 9 (.slice (some ⟨w.heap.size, 0, none⟩) 1 1)).run Try.prog (w.alloc (.cells #[.int .u8 (48 + (n : Int))] 5)) = .ok (.string (L.bs [L.dig n])) (w.alloc (.cells #[.int .u8 (48 + (n : Int))] 5)) := by
    refine run_convert_bytes_back (P := Try.prog) _ 84 9 5 ⟨w.heap.size, 0, none⟩ 1 [L.dig n] Try.underlying84 Try.underlying5 Try.underlying9 ?_
    intro j hj
    have : j = 0 := by simp at hj; exact hj
    subst this
    rw [add_addr, Nat.zero_add, World.cell?_alloc_new]
    simp [dig_toNat n hn]
  go_enter Try.func32, Try.ntmps32
  go_wp2_with fail
  go_ret
  exact ⟨rfl, (Fr.refl _ _).alloc _⟩

def opTo (s : L.St) : Nat → List UInt8
  | 0 => [111, 112, 101, 110, 61]
  | k + 1 => opTo s k ++ [L.openD s k]

def genTo (s : L.St) : Nat → List UInt8
  | 0 => opTo s 4 ++ [32, 103, 101, 110, 61]
  | k + 1 => genTo s k ++ [L.dig (s.gen k)]

theorem showL_eq (s : L.St) : L.showL s = genTo s 4 ++ [32, 116, 114, 97, 99, 101, 61] ++ s.tr := by
  simp [L.showL, genTo, opTo]

theorem bs_size (l : List UInt8) : (L.bs l).size = l.length := by simp [L.bs, ByteArray.size]

theorem opTo_len (s : L.St) : ∀ k, (opTo s k).length = 5 + k
  | 0 => rfl
  | k + 1 => by simp [opTo, opTo_len s k]; omega

theorem genTo_len (s : L.St) : ∀ k, (genTo s k).length = 14 + k
  | 0 => by simp [genTo, opTo_len]
  | k + 1 => by simp [genTo, genTo_len s k]; omega

theorem bs_lit (l : List UInt8) : (⟨l.toArray⟩ : ByteArray) = L.bs l := rfl

theorem show_any {w : World} {bT bC bR : Nat} {s : L.St} (h : RT w bT bC bR s) :
    Calls Try.prog 72 #[.pointer (some ⟨bT, 0, none⟩)] w fun e w' => e = .returned (.string (L.bs (L.showL s))) ∧ Fr (fun _ => False) w w' := by
  have t0 := h.t0.c
  have H := hid h
  clear h
  go_enter Try.func72, Try.ntmps72
  go_wp2_with fail
  go_loop [3, 4] (fun t i => ∃ k : Nat, k ≤ 4 ∧ i = .int .i64 k ∧ t = .string (L.bs (opTo s k))) (fun _ i => 4 - (intOf i).toNat)
  case atStart => exact ⟨0, by omega, rfl, rfl⟩
  case round =>
    obtain ⟨k, hk, rfl, rfl⟩ := hrel
    have hk0 : (0 : Int) ≤ (k : Int) := by omega
    have hz : (L.bs (opTo s k)).size ≤ 100 := by rw [bs_size, opTo_len]; omega
    by_cases hlt : k < 4
    · have hk4 : (k : Int) < 4 := by omega
      have co := (H.out.co k hlt).c
      by_cases ho : s.op k = true
      · have hp : 0 ≤ s.hdl k := L.hdl_nonneg.2 ho
        have HE : Hid (opTo s (k + 1) = opTo s k ++ [49]) := by simp [Hid, opTo, L.openD, ho]
        clear ho
        go_wp2_with fail
        go_round
        case rel => exact ⟨k + 1, by omega, by go_num, by rw [HE.out, ← L.bs_append]; rfl⟩
        case measure => simp [intOf]; omega
      · have hp : s.hdl k = -1 := L.hdl_free (by simpa using ho)
        rw [hp] at co
        have HE : Hid (opTo s (k + 1) = opTo s k ++ [48]) := by simp [Hid, opTo, L.openD, ho]
        clear ho hp
        go_wp2_with fail
        go_round
        case rel => exact ⟨k + 1, by omega, by go_num, by rw [HE.out, ← L.bs_append]; rfl⟩
        case measure => simp [intOf]; omega
    · have hk4 : ¬ (k : Int) < 4 := by omega
      have hk4' : k = 4 := by omega
      subst hk4'
      go_wp2_with fail
      have e0 : (L.bs (opTo s 4)) ++ (⟨#[32, 103, 101, 110, 61]⟩ : ByteArray) = L.bs (genTo s 0) := by
        show L.bs (opTo s 4) ++ L.bs [32, 103, 101, 110, 61] = _
        rw [L.bs_append]; rfl
      rw [e0]
      clear e0
      go_loopw [3, 5] (fun t i wr => ∃ k : Nat, k ≤ 4 ∧ i = .int .i64 k ∧ t = .string (L.bs (genTo s k)) ∧ Fr (fun _ => False) w wr) (fun _ i _ => 4 - (intOf i).toNat)
      case atStart => exact ⟨0, by omega, rfl, rfl, Fr.refl _ _⟩
      case round =>
        obtain ⟨k, hk, rfl, rfl, hf⟩ := hrel
        have hR := H.out.fr hf (fun f => f) (fun f => f) (fun f => f)
        clear hk0 hz hk4 hlt t0
        have t0 := hR.t0.c
        have hk0 : (0 : Int) ≤ (k : Int) := by omega
        have hz : (L.bs (genTo s k)).size ≤ 100 := by rw [bs_size, genTo_len]; omega
        have HF := hid hf
        clear hf
        by_cases hlt : k < 4
        · have hk4 : (k : Int) < 4 := by omega
          have cg := (hR.cg k hlt).c
          have hg := hR.ok.gen k hlt
          have hz2 : (L.bs [L.dig (s.gen k)]).size ≤ 100 := by rw [bs_size]; simp
          clear hR
          go_wp2_with (go_at_call 32; refine (itoa_small _ (by omega) _).mono ?_; rintro e w2 ⟨rfl, hf2⟩)
          go_roundw
          case rel => exact ⟨k + 1, by omega, by go_num, by rw [L.bs_append]; rfl, HF.out.trans hf2⟩
          case measure => simp [intOf]; omega
        · have hk4 : ¬ (k : Int) < 4 := by omega
          have hk4' : k = 4 := by omega
          subst hk4'
          obtain ⟨buf, hl, ht, hb⟩ := hR.rb
          have t2 := hR.t2.c
          have t3 := hR.t3.c
          have hlen := hR.ok.len
          have hcv : ∀ q, (convert 84 9 (.slice (some ⟨bR, 0, none⟩) s.tr.length 24)).run Try.prog (wr.drewN q) = .ok (.string (L.bs s.tr)) (wr.drewN q) := by
            intro q
            refine run_convert_bytes_back (P := Try.prog) _ 84 9 5 ⟨bR, 0, none⟩ 24 s.tr Try.underlying84 Try.underlying5 Try.underlying9 ?_
            intro j hj
            rw [add_addr, Nat.zero_add]
            have h1 := (hb j (by omega)).c
            have h2 : buf.getD j 0 = s.tr[j] := by
              have h3 : (buf.take s.tr.length)[j]? = some s.tr[j] := by rw [ht]; exact List.getElem?_eq_getElem hj
              rw [List.getElem?_take_of_lt hj] at h3
              simp [List.getD, h3]
            rw [h2] at h1
            exact h1
          have hn0 : (0 : Int) ≤ (s.tr.length : Int) := by omega
          have hn1 : (s.tr.length : Int) ≤ 24 := by omega
          have hz3 : (L.bs s.tr).size ≤ 24 := by rw [bs_size]; exact hlen
          have HE := hid (showL_eq s)
          clear hR hb ht
          generalize s.tr.length = n at *
          go_wp2_with fail
          go_quiet (fail)
          go_wp2_with fail
          go_ret
          refine ⟨?_, HF.out.drewN _⟩
          rw [HE.out]
          rw [← L.bs_append, ← L.bs_append]
          rfl
end Go.Proofs.Qxb6500452a
