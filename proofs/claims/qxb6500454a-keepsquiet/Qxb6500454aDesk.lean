import Derived.Test.Qxb6500454aOpen
namespace Go.Proofs.Qxb6500454a
open Go Go.RowKit
set_option maxRecDepth 100000
set_option maxHeartbeats 800000
set_option linter.unusedSimpArgs false
set_option linter.unusedVariables false

def updI (f : Nat → Int) (k : Nat) (v : Int) : Nat → Int := fun j => if j = k then v else f j

/-- The ghost in block bD. -/
structure DT (w : World) (bD : Nat) (mine : Nat → Int) (gen : Nat → Nat) (n : Int) (tr : List UInt8) : Prop where
  m : ∀ k, k < 4 → At w bD k (.int .i64 (mine k))
  g : ∀ k, k < 4 → At w bD (4 + k) (.int .i64 (gen k : Int))
  c : At w bD 8 (.int .i64 n)
  t : At w bD 9 (.string (L.bs tr))
  lg : ∀ k, k < 4 → gen k < 4
  ll : tr.length ≤ 24

theorem DT.fr {w w' : World} {bD : Nat} {mine : Nat → Int} {gen : Nat → Nat} {n : Int} {tr : List UInt8} (h : DT w bD mine gen n tr) {S : Nat → Prop} (hf : Fr S w w') (hM : ¬ S bD) : DT w' bD mine gen n tr :=
  ⟨fun k hk => (h.m k hk).fr hf hM, fun k hk => (h.g k hk).fr hf hM, h.c.fr hf hM, h.t.fr hf hM, h.lg, h.ll⟩
theorem DT.drew {w : World} {bD : Nat} {mine : Nat → Int} {gen : Nat → Nat} {n : Int} {tr : List UInt8} (h : DT w bD mine gen n tr) : DT w.drew bD mine gen n tr :=
  ⟨fun k hk => (h.m k hk).drew, fun k hk => (h.g k hk).drew, h.c.drew, h.t.drew, h.lg, h.ll⟩
theorem DT.drewN {w : World} {bD : Nat} {mine : Nat → Int} {gen : Nat → Nat} {n : Int} {tr : List UInt8} (h : DT w bD mine gen n tr) (q : Nat) : DT (w.drewN q) bD mine gen n tr :=
  ⟨fun k hk => (h.m k hk).drewN q, fun k hk => (h.g k hk).drewN q, h.c.drewN q, h.t.drewN q, h.lg, h.ll⟩
theorem DT.alloc {w : World} {bD : Nat} {mine : Nat → Int} {gen : Nat → Nat} {n : Int} {tr : List UInt8} (h : DT w bD mine gen n tr) (o : Obj) : DT (w.alloc o) bD mine gen n tr := h.fr ((Fr.refl (fun _ => False) w).alloc o) (fun f => f)
theorem DT.lt {w : World} {bD : Nat} {mine : Nat → Int} {gen : Nat → Nat} {n : Int} {tr : List UInt8} (h : DT w bD mine gen n tr) : bD < w.heap.size := h.t.lt

/-- The ghost stands at state s. -/
def DS (w : World) (bD : Nat) (s : L.St) : Prop := DT w bD s.hdl s.gen (s.cnt : Int) s.tr ∧ s.Ok

theorem newdesk_any (w : World) : Calls Try.prog 21 #[] w fun e w' => e = .returned (.pointer (some ⟨w.heap.size, 0, none⟩)) ∧ DS w' w.heap.size L.init ∧ Fr (fun _ => False) w w' := by
  go_enter Try.func21, Try.ntmps21
  go_wp2_with fail
  go_ret
  refine ⟨rfl, ⟨⟨fun k hk => ?_, fun k hk => ?_, At.new w _ _ rfl, At.new w _ _ rfl, L.init_ok.gen, L.init_ok.len⟩, L.init_ok⟩, (Fr.refl _ _).alloc _⟩
  · rcases L.four hk with h | h | h | h <;> subst h <;> exact At.new w _ _ rfl
  · rcases L.four hk with h | h | h | h <;> subst h <;> exact At.new w _ _ rfl

theorem dnote_any {w : World} {bD : Nat} {mine : Nat → Int} {gen : Nat → Nat} {n : Int} {tr : List UInt8} (h : DT w bD mine gen n tr) (hev : tr.length % 2 = 0) (c : UInt8) (k : Nat) (hk : k < 4) :
    Calls Try.prog 37 #[.pointer (some ⟨bD, 0, none⟩), .int .u8 (c.toNat : Int), .int .i64 k] w fun e w' => e = .returned (.tuple #[]) ∧
      DT w' bD mine gen n (L.noteL tr c k) ∧ Fr (S1 bD) w w' := by
  have c8 := h.t.c
  have f8 := h.t.f
  have hlen := h.ll
  have hk' : (k : Int) < 4 := by omega
  have hk0 : (0 : Int) ≤ k := by omega
  have hsz : (L.bs tr).size = tr.length := bs_size _
  have H := hid h
  have hM := h.lt
  clear h
  by_cases hlt : tr.length < 24
  · have e1 : Hid (L.noteL tr c k = tr ++ [c, L.dig k]) := by simp [Hid, L.noteL, hlt]
    have hlt' : ((L.bs tr).size : Int) < 24 := by omega
    have hle : (L.bs tr).size ≤ 24 := by omega
    have hcv : (convert 55 9 (.slice (some ⟨w.heap.size, 0, none⟩) 2 2)).run Try.prog (w.alloc (.cells #[.int .u8 (c.toNat : Int), .int .u8 (48 + (k : Int))] 5)).drew = .ok (.string (L.bs [c, L.dig k])) (w.alloc (.cells #[.int .u8 (c.toNat : Int), .int .u8 (48 + (k : Int))] 5)).drew := by
      refine run_convert_bytes_back (P := Try.prog) _ 55 9 5 ⟨w.heap.size, 0, none⟩ 2 [c, L.dig k] Try.underlying55 Try.underlying5 Try.underlying9 ?_
      intro j hj
      have : j = 0 ∨ j = 1 := by simp at hj; omega
      rw [add_addr, Nat.zero_add, World.cell?_drew, World.cell?_alloc_new]
      rcases this with h | h <;> subst h
      · simp
      · simp [dig_toNat k (by omega)]
    have hz2 : (L.bs [c, L.dig k]).size ≤ 2 := by rw [bs_size]; simp
    clear hsz hlt
    go_enter Try.func37, Try.ntmps37
    go_wp2_with fail
    go_region
    all_goals go_wp2_with fail
    go_end0
    have hw : DT (w.setCell ⟨bD, 9, none⟩ (.string (L.bs tr ++ L.bs [c, L.dig k]))) bD mine gen n (L.noteL tr c k) :=
      ⟨fun j hj => (H.out.m j hj).other (by omega) _, fun j hj => (H.out.g j hj).other (by omega) _, H.out.c.other (by omega) _, (H.out.t.same _).val (by rw [L.bs_append, e1.out]), H.out.lg, (L.noteL_len c k hlen hev).1⟩
    exact ⟨rfl, (hw.alloc _).drew, (((Fr.refl (S1 bD) _).setCell (fun _ => by simp [S1]) _).alloc _).drew⟩
  · have e1 : Hid (L.noteL tr c k = tr) := by simp [Hid, L.noteL, hlt]
    have hlt' : ¬ ((L.bs tr).size : Int) < 24 := by omega
    clear hsz hlt
    go_enter Try.func37, Try.ntmps37
    go_wp2_with fail
    go_end0
    rw [e1.out]
    exact ⟨rfl, H.out, Fr.refl _ _⟩

theorem DT.took {w : World} {bD : Nat} {mine : Nat → Int} {gen : Nat → Nat} {n : Int} {tr : List UInt8} (h : DT w bD mine gen n tr) {k : Nat} (hk : k < 4) (hd : Int) :
    DT ((w.setCell ⟨bD, k, none⟩ (.int .i64 hd)).setCell ⟨bD, 8, none⟩ (.int .i64 (n + 1))) bD (updI mine k hd) gen (n + 1) tr := by
  refine ⟨fun j hj => ?_, fun j hj => ((h.g j hj).other (by omega) _).other (by omega) _, (h.c.other (by omega) _).same _, (h.t.other (by omega) _).other (by omega) _, h.lg, h.ll⟩
  refine At.other ?_ (by omega) _
  by_cases e : j = k
  · subst e; exact ((h.m j hj).same _).val (by simp [updI])
  · exact ((h.m j hj).other (by omega) _).val (by simp [updI, e])

def takeB (gen : Nat → Nat) (k : Nat) (hd : Int) : Bool := hd == (k : Int) + 4 * (gen k : Int)

theorem dtake_any {w : World} {bD : Nat} {mine : Nat → Int} {gen : Nat → Nat} {n : Int} {tr : List UInt8} (h : DT w bD mine gen n tr) (hev : tr.length % 2 = 0) (hn : 0 ≤ n ∧ n < 100) (k : Nat) (hk : k < 4) (hd : Int) :
    Calls Try.prog 31 #[.pointer (some ⟨bD, 0, none⟩), .int .i64 k, .int .i64 hd] w fun e w' => e = .returned (.bool (takeB gen k hd)) ∧
      DT w' bD (updI mine k hd) gen (n + 1) (L.noteL tr 65 k) ∧ Fr (S1 bD) w w' := by
  have cm := (h.m k hk).c
  have fm := (h.m k hk).f
  have cc := h.c.c
  have fc := h.c.f
  have hk' : (k : Int) < 4 := by omega
  have hk0 : (0 : Int) ≤ k := by omega
  have hg := h.lg k hk
  have hg' : (gen k : Int) < 4 := by omega
  have hn0 := hn.1
  have hn1 := hn.2
  have H := hid h
  clear h
  go_enter Try.func31, Try.ntmps31
  go_wp2_with fail
  refine (dnote_any (H.out.took hk hd) hev 65 k hk).mono ?_
  rintro e w1 ⟨rfl, hr, hf⟩
  have cg := (hr.g k hk).c
  have HR := hid hr
  clear hr
  go_wp2_with fail
  go_ret
  exact ⟨rfl, HR.out, (((Fr.refl (S1 bD) _).setCell (fun _ => by simp [S1]) _).setCell (fun _ => by simp [S1]) _).trans hf⟩

theorem DT.gave {w : World} {bD : Nat} {mine : Nat → Int} {gen : Nat → Nat} {n : Int} {tr : List UInt8} (h : DT w bD mine gen n tr) {k : Nat} (hk : k < 4) :
    DT (((w.setCell ⟨bD, k, none⟩ (.int .i64 (-1))).setCell ⟨bD, 4 + k, none⟩ (.int .i64 (((gen k : Int) + 1) % 4))).setCell ⟨bD, 8, none⟩ (.int .i64 (n - 1))) bD (updI mine k (-1)) (L.updN gen k ((gen k + 1) % 4)) (n - 1) tr := by
  refine ⟨fun j hj => ?_, fun j hj => ?_, ((h.c.other (by omega) _).other (by omega) _).same _, ((h.t.other (by omega) _).other (by omega) _).other (by omega) _, fun j hj => ?_, h.ll⟩
  · refine At.other (At.other ?_ (by omega) _) (by omega) _
    by_cases e : j = k
    · subst e; exact ((h.m j hj).same _).val (by simp [updI])
    · exact ((h.m j hj).other (by omega) _).val (by simp [updI, e])
  · refine At.other ?_ (by omega) _
    by_cases e : j = k
    · subst e; exact (((h.g j hj).other (by omega) _).same _).val (by simp [L.updN])
    · exact (((h.g j hj).other (by omega) _).other (by omega) _).val (by simp [L.updN, e])
  · simp only [L.updN]
    split
    · omega
    · exact h.lg j hj

theorem dgive_any {w : World} {bD : Nat} {mine : Nat → Int} {gen : Nat → Nat} {n : Int} {tr : List UInt8} (h : DT w bD mine gen n tr) (hev : tr.length % 2 = 0) (hn : 0 ≤ n ∧ n < 100) (k : Nat) (hk : k < 4) :
    Calls Try.prog 32 #[.pointer (some ⟨bD, 0, none⟩), .int .i64 k] w fun e w' => e = .returned (.tuple #[]) ∧
      DT w' bD (updI mine k (-1)) (L.updN gen k ((gen k + 1) % 4)) (n - 1) (L.noteL tr 82 k) ∧ Fr (S1 bD) w w' := by
  have cm := (h.m k hk).c
  have fm := (h.m k hk).f
  have cg := (h.g k hk).c
  have fg := (h.g k hk).f
  have cc := h.c.c
  have fc := h.c.f
  have hk' : (k : Int) < 4 := by omega
  have hk0 : (0 : Int) ≤ k := by omega
  have hg := h.lg k hk
  have hg' : (gen k : Int) < 4 := by omega
  have hg0 : (0 : Int) ≤ (gen k : Int) := by omega
  have hn0 := hn.1
  have hn1 := hn.2
  have H := hid h
  clear h
  go_enter Try.func32, Try.ntmps32
  go_wp2_with fail
  go_region
  go_wp2_with (go_at_call 37; refine (dnote_any (H.out.gave hk).drew hev 82 k hk).mono ?_; rintro e w1 ⟨rfl, hr, hf⟩)
  go_end0
  exact ⟨rfl, hr, ((((Fr.refl (S1 bD) _).setCell (fun _ => by simp [S1]) _).setCell (fun _ => by simp [S1]) _).setCell (fun _ => by simp [S1]) _).drew.trans hf⟩

end Go.Proofs.Qxb6500454a
