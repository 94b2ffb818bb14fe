import Derived.Test.Qxb6500452aLShow
namespace Go.Proofs.Qxb6500452a
open Go Go.RowKit
set_option maxRecDepth 100000
set_option maxHeartbeats 800000
set_option linter.unusedSimpArgs false
set_option linter.unusedVariables false

/-- The model's table in block bM. -/
structure MT (w : World) (bM : Nat) (s : L.St) : Prop where
  mo : ∀ k, k < 4 → At w bM k (.bool (s.op k))
  mg : ∀ k, k < 4 → At w bM (4 + k) (.int .i64 (s.gen k : Int))
  mt : At w bM 8 (.string (L.bs s.tr))
  ok : s.Ok

def S1 (b : Nat) : Nat → Prop := fun i => i = b

theorem MT.fr {w w' : World} {bM : Nat} {s : L.St} (h : MT w bM s) {S : Nat → Prop} (hf : Fr S w w') (hM : ¬ S bM) : MT w' bM s :=
  ⟨fun k hk => (h.mo k hk).fr hf hM, fun k hk => (h.mg k hk).fr hf hM, h.mt.fr hf hM, h.ok⟩
theorem MT.drew {w : World} {bM : Nat} {s : L.St} (h : MT w bM s) : MT w.drew bM s := ⟨fun k hk => (h.mo k hk).drew, fun k hk => (h.mg k hk).drew, h.mt.drew, h.ok⟩
theorem MT.alloc {w : World} {bM : Nat} {s : L.St} (h : MT w bM s) (o : Obj) : MT (w.alloc o) bM s := h.fr ((Fr.refl (fun _ => False) w).alloc o) (fun f => f)
theorem MT.lt {w : World} {bM : Nat} {s : L.St} (h : MT w bM s) : bM < w.heap.size := h.mt.lt

theorem mnew_any (w : World) : Calls Try.prog 93 #[] w fun e w' => e = .returned (.pointer (some ⟨w.heap.size, 0, none⟩)) ∧ MT w' w.heap.size L.init ∧ Fr (fun _ => False) w w' := by
  go_enter Try.func93, Try.ntmps93
  go_wp2_with fail
  go_ret
  refine ⟨rfl, ⟨fun k hk => ?_, fun k hk => ?_, At.new w _ _ rfl, L.init_ok⟩, (Fr.refl _ _).alloc _⟩
  · rcases L.four hk with h | h | h | h <;> subst h <;> exact At.new w _ _ rfl
  · rcases L.four hk with h | h | h | h <;> subst h <;> exact At.new w _ _ rfl

theorem mclear_any {w : World} {bM : Nat} {s : L.St} (h : MT w bM s) : Calls Try.prog 107 #[.pointer (some ⟨bM, 0, none⟩)] w fun e w' => e = .returned (.tuple #[]) ∧ MT w' bM (L.clear s) ∧ Fr (S1 bM) w w' := by
  have c := h.mt.c
  have f := h.mt.f
  go_enter Try.func107, Try.ntmps107
  go_wp2_with fail
  go_end0
  exact ⟨rfl, ⟨fun k hk => (h.mo k hk).other (by omega) _, fun k hk => (h.mg k hk).other (by omega) _, h.mt.same _, L.clear_ok h.ok⟩, (Fr.refl (S1 bM) _).setCell (fun _ => by simp [S1]) _⟩

theorem mnote_any {w : World} {bM : Nat} {s : L.St} (h : MT w bM s) (c : UInt8) (k : Nat) (hk : k < 4) :
    Calls Try.prog 113 #[.pointer (some ⟨bM, 0, none⟩), .int .u8 (c.toNat : Int), .int .i64 k] w fun e w' => e = .returned (.tuple #[]) ∧
      MT w' bM ⟨s.op, s.gen, L.noteL s.tr c k⟩ ∧ Fr (S1 bM) w w' := by
  have c8 := h.mt.c
  have f8 := h.mt.f
  have hlen := h.ok.len
  have hev := h.ok.even
  have hk' : (k : Int) < 4 := by omega
  have hk0 : (0 : Int) ≤ k := by omega
  have hsz : (L.bs s.tr).size = s.tr.length := bs_size _
  have H := hid h
  have hM := h.lt
  clear h
  by_cases hlt : s.tr.length < 24
  · have e1 : Hid (L.noteL s.tr c k = s.tr ++ [c, L.dig k]) := by simp [Hid, L.noteL, hlt]
    have hlt' : ((L.bs s.tr).size : Int) < 24 := by omega
    have hle : (L.bs s.tr).size ≤ 24 := by omega
    have hcv : (convert 84 9 (.slice (some ⟨w.heap.size, 0, none⟩) 2 2)).run Try.prog (w.alloc (.cells #[.int .u8 (c.toNat : Int), .int .u8 (48 + (k : Int))] 5)).drew = .ok (.string (L.bs [c, L.dig k])) (w.alloc (.cells #[.int .u8 (c.toNat : Int), .int .u8 (48 + (k : Int))] 5)).drew := by
      refine run_convert_bytes_back (P := Try.prog) _ 84 9 5 ⟨w.heap.size, 0, none⟩ 2 [c, L.dig k] Try.underlying84 Try.underlying5 Try.underlying9 ?_
      intro j hj
      have : j = 0 ∨ j = 1 := by simp at hj; omega
      rw [add_addr, Nat.zero_add, World.cell?_drew, World.cell?_alloc_new]
      rcases this with h | h <;> subst h
      · simp
      · simp [dig_toNat k (by omega)]
    have hz2 : (L.bs [c, L.dig k]).size ≤ 2 := by rw [bs_size]; simp
    clear hsz hlt
    go_enter Try.func113, Try.ntmps113
    go_wp2_with fail
    go_region
    all_goals go_wp2_with fail
    go_end0
    have hw : MT (w.setCell ⟨bM, 8, none⟩ (.string (L.bs s.tr ++ L.bs [c, L.dig k]))) bM ⟨s.op, s.gen, L.noteL s.tr c k⟩ :=
      ⟨fun j hj => (H.out.mo j hj).other (by omega) _, fun j hj => (H.out.mg j hj).other (by omega) _, (H.out.mt.same _).val (by rw [L.bs_append, e1.out]), ⟨H.out.ok.gen, (L.noteL_len c k hlen hev).1, (L.noteL_len c k hlen hev).2⟩⟩
    exact ⟨rfl, (hw.alloc _).drew, (((Fr.refl (S1 bM) _).setCell (fun _ => by simp [S1]) _).alloc _).drew⟩
  · have e1 : Hid (L.noteL s.tr c k = s.tr) := by simp [Hid, L.noteL, hlt]
    have hlt' : ¬ ((L.bs s.tr).size : Int) < 24 := by omega
    clear hsz hlt
    go_enter Try.func113, Try.ntmps113
    go_wp2_with fail
    go_end0
    rw [e1.out]
    exact ⟨rfl, H.out, Fr.refl _ _⟩

theorem MT.taken {w : World} {bM : Nat} {s : L.St} (h : MT w bM s) {k : Nat} (hk : k < 4) : MT (w.setCell ⟨bM, k, none⟩ (.bool true)) bM ⟨L.updB s.op k true, s.gen, s.tr⟩ := by
  refine ⟨fun j hj => ?_, fun j hj => (h.mg j hj).other (by omega) _, h.mt.other (by omega) _, ⟨h.ok.gen, h.ok.len, h.ok.even⟩⟩
  by_cases e : j = k
  · subst e; exact ((h.mo j hj).same _).val (by simp [L.updB])
  · exact ((h.mo j hj).other (by omega) _).val (by simp [L.updB, e])

theorem macquire_any {w : World} {bM : Nat} {s : L.St} (h : MT w bM s) (k : Int) :
    Calls Try.prog 108 #[.pointer (some ⟨bM, 0, none⟩), .int .i64 k] w fun e w' => e = .returned (.tuple #[.int .i64 (L.acq s k).1, .int .i64 (L.acq s k).2.1]) ∧
      MT w' bM (L.acq s k).2.2 ∧ Fr (S1 bM) w w' := by
  by_cases hg : 0 ≤ k ∧ k < 4
  · have hgb : goodB k = true := by simp [goodB, hg]
    obtain ⟨n, rfl⟩ := Int.eq_ofNat_of_zero_le hg.1
    have hn : n < 4 := by omega
    have hk0 := hg.1
    have hk1 := hg.2
    have co := (h.mo n hn).c
    have cf := (h.mo n hn).f
    have hgl := h.ok.gen n hn
    have hgl' : (s.gen n : Int) < 4 := by omega
    have H := hid h
    clear h
    cases ho : s.op n
    · have HF : Hid (L.acq s n = ((n : Int) + 4 * (s.gen n : Int), 0, L.take s n)) := by unfold Hid L.acq; rw [if_pos hg]; simp [ho]
      rw [ho] at co
      clear ho
      go_enter Try.func108, Try.ntmps108
      go_wp2_with (go_at_call 73; refine (good_any _ _).mono ?_; rintro e w' ⟨rfl, rfl⟩)
      refine (mnote_any (H.out.taken hn) 65 n hn).mono ?_
      rintro e w1 ⟨rfl, hr, hf⟩
      have cg := (hr.mg n hn).c
      have HR := hid hr
      clear hr
      go_wp2_with fail
      go_ret2
      rw [HF.out]
      exact ⟨rfl, HR.out, ((Fr.refl (S1 bM) _).setCell (fun _ => by simp [S1]) _).trans hf⟩
    · have HF : Hid (L.acq s n = (0, 4, s)) := by unfold Hid L.acq; rw [if_pos hg]; simp [ho]
      rw [ho] at co
      clear ho
      go_enter Try.func108, Try.ntmps108
      go_wp2_with (go_at_call 73; refine (good_any _ _).mono ?_; rintro e w' ⟨rfl, rfl⟩)
      go_ret2
      rw [HF.out]
      exact ⟨rfl, H.out, Fr.refl _ _⟩
  · have hgb : goodB k = false := by simp [goodB]; omega
    have HF : Hid (L.acq s k = (0, 2, s)) := by unfold Hid L.acq; rw [if_neg hg]
    go_enter Try.func108, Try.ntmps108
    go_wp2_with (go_at_call 73; refine (good_any _ _).mono ?_; rintro e w' ⟨rfl, rfl⟩)
    go_ret2
    rw [HF.out]
    exact ⟨rfl, h, Fr.refl _ _⟩

theorem MT.given {w : World} {bM : Nat} {s : L.St} (h : MT w bM s) {k : Nat} (hk : k < 4) :
    MT ((w.setCell ⟨bM, k, none⟩ (.bool false)).setCell ⟨bM, 4 + k, none⟩ (.int .i64 (((s.gen k : Int) + 1) % 4))) bM ⟨L.updB s.op k false, L.updN s.gen k ((s.gen k + 1) % 4), s.tr⟩ := by
  have hok := L.give_ok h.ok k
  refine ⟨fun j hj => ?_, fun j hj => ?_, (h.mt.other (by omega) _).other (by omega) _, ⟨hok.gen, h.ok.len, h.ok.even⟩⟩
  · refine At.other ?_ (by omega) _
    by_cases e : j = k
    · subst e; exact ((h.mo j hj).same _).val (by simp [L.updB])
    · exact ((h.mo j hj).other (by omega) _).val (by simp [L.updB, e])
  · by_cases e : j = k
    · subst e; exact (((h.mg j hj).other (by omega) _).same _).val (by simp [L.updN])
    · exact (((h.mg j hj).other (by omega) _).other (by omega) _).val (by simp [L.updN, e])

theorem mrelease_any {w : World} {bM : Nat} {s : L.St} (h : MT w bM s) (k : Int) :
    Calls Try.prog 109 #[.pointer (some ⟨bM, 0, none⟩), .int .i64 k] w fun e w' => e = .returned (.int .i64 (L.rel s k).1) ∧
      MT w' bM (L.rel s k).2 ∧ Fr (S1 bM) w w' := by
  by_cases hg : 0 ≤ k ∧ k < 16
  · obtain ⟨m, rfl⟩ := Int.eq_ofNat_of_zero_le hg.1
    obtain ⟨n, hmn⟩ : ∃ n, n = m % 4 := ⟨_, rfl⟩
    have hn : n < 4 := by omega
    have hm4 : ((m : Int) % 4) = (n : Int) := by omega
    have hk0 := hg.1
    have hk1 := hg.2
    have hd0 : decide ((m : Int) < 0) = false := by simp
    have hn0 : (0 : Int) ≤ (n : Int) := by omega
    have hn1 : (n : Int) < 4 := by omega
    have co := (h.mo n hn).c
    have cf := (h.mo n hn).f
    have cg := (h.mg n hn).c
    have cgf := (h.mg n hn).f
    have hgl := h.ok.gen n hn
    have hgl' : (s.gen n : Int) < 4 := by omega
    have hN : ((m : Int) % 4).toNat = n := by omega
    have H := hid h
    clear h
    cases hop : s.op n
    · have HF : Hid (L.rel s m = (5, s)) := by
        unfold Hid L.rel
        rw [if_pos hg, hN, if_neg (by rw [L.hdl_free hop]; omega)]
      rw [hop] at co
      clear hop hmn hN
      go_enter Try.func109, Try.ntmps109
      go_wp2_with fail
      go_ret
      rw [HF.out]
      exact ⟨rfl, H.out, Fr.refl _ _⟩
    · rw [hop] at co
      by_cases ho : (s.gen n : Int) = (m : Int) / 4
      · have HF : Hid (L.rel s m = (0, L.give s n)) := by
          unfold Hid L.rel
          rw [if_pos hg, hN, if_pos (by rw [L.hdl_open hop]; omega)]
        have hb : ((s.gen n : Int) != (m : Int) / 4) = false := by simpa using ho
        clear hop hmn hN ho
        go_enter Try.func109, Try.ntmps109
        go_wp2_with fail
        go_region
        go_wp2_with (go_at_call 113; refine (mnote_any (H.out.given hn).drew 82 n hn).mono ?_; rintro e w1 ⟨rfl, hr, hf⟩)
        go_ret
        rw [HF.out]
        exact ⟨rfl, hr, (((Fr.refl (S1 bM) _).setCell (fun _ => by simp [S1]) _).setCell (fun _ => by simp [S1]) _).drew.trans hf⟩
      · have HF : Hid (L.rel s m = (5, s)) := by
          unfold Hid L.rel
          rw [if_pos hg, hN, if_neg (by rw [L.hdl_open hop]; omega)]
        have hb : ((s.gen n : Int) != (m : Int) / 4) = true := by simpa using ho
        clear hop hmn hN ho
        go_enter Try.func109, Try.ntmps109
        go_wp2_with fail
        go_ret
        rw [HF.out]
        exact ⟨rfl, H.out, Fr.refl _ _⟩
  · have HF : Hid (L.rel s k = (2, s)) := by unfold Hid L.rel; rw [if_neg hg]
    by_cases hlt : k < 0
    · go_enter Try.func109, Try.ntmps109
      go_wp2_with fail
      go_ret
      rw [HF.out]
      exact ⟨rfl, h, Fr.refl _ _⟩
    · have h0 : 0 ≤ k := by omega
      have h1 : 16 ≤ k := by omega
      go_enter Try.func109, Try.ntmps109
      go_wp2_with fail
      go_ret
      rw [HF.out]
      exact ⟨rfl, h, Fr.refl _ _⟩
end Go.Proofs.Qxb6500452a
