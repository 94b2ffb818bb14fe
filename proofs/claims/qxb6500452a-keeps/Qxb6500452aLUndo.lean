import Derived.Test.Qxb6500452aLRel
import Derived.Defers
namespace Go.Proofs.Qxb6500452a
open Go Go.RowKit
set_option maxRecDepth 100000
set_option maxHeartbeats 400000
set_option linter.unusedSimpArgs false

theorem RT.alloc {w : World} {bT bC bR : Nat} {s : L.St} (h : RT w bT bC bR s) (o : Obj) : RT (w.alloc o) bT bC bR s :=
  h.fr ((Fr.refl (fun _ => False) w).alloc o) (fun f => f) (fun f => f) (fun f => f)

theorem RT.set {w : World} {bT bC bR : Nat} {s : L.St} (h : RT w bT bC bR s) {b : Nat} (o : Nat) (x : Value) (h1 : b ≠ bT) (h2 : b ≠ bC) (h3 : b ≠ bR) : RT (w.setCell ⟨b, o, none⟩ x) bT bC bR s :=
  h.fr ((Fr.refl (fun i => i = b) w).setCell (fun _ => rfl) x) (Ne.symm h1) (Ne.symm h2) (Ne.symm h3)

theorem RT.lt {w : World} {bT bC bR : Nat} {s : L.St} (h : RT w bT bC bR s) : bT < w.heap.size ∧ bC < w.heap.size ∧ bR < w.heap.size := by
  obtain ⟨buf, hl, ht, hb⟩ := h.rb
  exact ⟨h.t0.lt, (h.co 0 (by omega)).lt, (hb 0 (by omega)).lt⟩

/-- The deferred undoing: nothing where e is OK. -/
theorem undo_ok {w : World} {pe pt ph pa pb : Nat} (he : At w pe 0 (.int .i64 0)) (u : FrameMode) :
    CallsD Try.prog 95 #[.pointer (some ⟨pe, 0, none⟩), .pointer (some ⟨pt, 0, none⟩), .pointer (some ⟨ph, 0, none⟩), .pointer (some ⟨pa, 0, none⟩), .pointer (some ⟨pb, 0, none⟩)] u w
      fun e u' w' => u' = u ∧ (e = .returned (.tuple #[]) ∧ w' = w) := by
  have c := he.c
  go_enter_d Try.func95, Try.ntmps95
  go_wp2_with fail
  go_end0
  exact ⟨rfl, rfl⟩

theorem undo_err {w : World} {bT bC bR : Nat} {s : L.St} (h : RT w bT bC bR s) {pe pt ph pa pb : Nat} (er hd : Int) {va vb : Value} (hne : er ≠ 0) (he : At w pe 0 (.int .i64 er)) (ht : At w pt 0 (.pointer (some ⟨bT, 0, none⟩)))
    (hh : At w ph 0 (.int .i64 hd)) (ha : At w pa 0 va) (hb : At w pb 0 vb) (ab : pa ≠ pb)
    (pa1 : ¬ S3 bT bC bR pa) (pb1 : ¬ S3 bT bC bR pb) (u : FrameMode) :
    CallsD Try.prog 95 #[.pointer (some ⟨pe, 0, none⟩), .pointer (some ⟨pt, 0, none⟩), .pointer (some ⟨ph, 0, none⟩), .pointer (some ⟨pa, 0, none⟩), .pointer (some ⟨pb, 0, none⟩)] u w
      fun e u' w' => u' = u ∧ (e = .returned (.tuple #[]) ∧ ∃ w1, RT w1 bT bC bR (L.rel s hd).2 ∧ Fr (S3 bT bC bR) w w1 ∧ w' = (w1.setCell ⟨pa, 0, none⟩ (.int .i64 0)).setCell ⟨pb, 0, none⟩ (.int .i64 0)) := by
  have c1 := he.c
  have c2 := ht.c
  have c3 := hh.c
  have hne' : (er != 0) = true := by simpa using hne
  have HA : Hid (At w pa 0 va) := ha
  have HB : Hid (At w pb 0 vb) := hb
  have HR : Hid (RT w bT bC bR s) := h
  clear ha hb h he ht hh hne
  go_enter_d Try.func95, Try.ntmps95
  go_wp2_with fail
  refine (release_any HR.out hd).mono ?_
  rintro e w1 ⟨rfl, hr, hf⟩
  have a1 := (HA.out.fr hf pa1).c
  have a2 := (HA.out.fr hf pa1).f
  have b1 := (HB.out.fr hf pb1).c
  have b2 := (HB.out.fr hf pb1).f
  have HR1 : Hid (RT w1 bT bC bR (L.rel s hd).2) := hr
  clear hr
  go_wp2_with fail
  go_end0
  exact ⟨rfl, w1, HR1.out, hf, rfl⟩

end Go.Proofs.Qxb6500452a
