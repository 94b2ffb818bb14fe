/- The model gate's scanner: move; what a fault that is remembered does. -/
import Derived.Test.Qxb6500452aHScan
namespace Go.Proofs.Qxb6500452a
open Go Go.RowKit
set_option maxRecDepth 100000
set_option maxHeartbeats 1600000
set_option linter.unusedSimpArgs false
set_option linter.unusedVariables false

theorem smust_fault {w : World} {C : Nat} {s : ByteArray} {p : Nat} {a : Int} (h : SN w C s p a) (ha : 0 ≤ a) (b : UInt8) : Calls Try.prog 99 #[.pointer (some ⟨C, 0, none⟩), .int .u8 (b.toNat : Int)] w fun e w' => e = .returned (.tuple #[]) ∧ w' = w := by
  have c2 := h.c2.c
  clear h
  go_enter Try.func99, Try.ntmps99
  go_wp2_with fail
  exact bodyPost_ret (v := .tuple #[]) (by simp [results, Try.results99, go_sem]) rfl ⟨rfl, rfl⟩
theorem snum_fault {w : World} {C : Nat} {s : ByteArray} {p : Nat} {a : Int} (h : SN w C s p a) (ha : 0 ≤ a) : Calls Try.prog 106 #[.pointer (some ⟨C, 0, none⟩)] w fun e w' => e = .returned (.int .i64 0) ∧ w' = w := by
  have H := hid h
  have c2 := h.c2.c
  have ha' : ¬ a < 0 := by omega
  clear h
  go_enter Try.func106, Try.ntmps106
  go_wp2_with fail
  refine (sdig_fault H.out ha).mono ?_
  rintro e w1 ⟨rfl, hw⟩
  obtain rfl := hw.symm
  go_wp2_with fail
  refine wp_loop_rounds 1 ?_
  rw [rounds_succ]
  go_wp2_with fail
  go_ret
  exact ⟨rfl, rfl⟩

/-- What move leaves. -/
def PostV (r : PR Mv) (C : Nat) (s : ByteArray) (e : Ending) (w' : World) : Prop :=
  match r with
  | .ok x => e = .returned (Mv.val x.1) ∧ SN w' C s x.2 (-1)
  | .error q => (∃ m : Mv, e = .returned (Mv.val m)) ∧ ∃ p', SN w' C s p' (q : Int)

/-- The end of move: the move's box is stored and read. -/
theorem mv_end {fn : Func} {R : Ending → World → Prop} {a : Act} {W : World} {pm : Nat} {y0 y1 y2 v0 v1 v2 : Value} (hres : fn.results = #[.cell 2 56]) (ht : a.tmps.getD 2 undef = .pointer (some ⟨pm, 0, none⟩)) (hd : a.defers = [])
    (a0 : At W pm 0 y0) (a1 : At W pm 1 y1) (a2 : At W pm 2 y2) (hR : ∀ w', Fr (fun i => i = pm) W w' → R (.returned (.agg #[v0, v1, v2])) w') :
    bodyPost Try.prog fn R .ret a (((W.setCell ⟨pm, 0, none⟩ v0).setCell ⟨pm, 1, none⟩ v1).setCell ⟨pm, 2, none⟩ v2) := by
  have z0 := (((a0.same v0).other (b' := pm) (o' := 1) (by omega) v1).other (b' := pm) (o' := 2) (by omega) v2).c
  have z1 := (((a1.other (b' := pm) (o' := 0) (by omega) v0).same v1).other (b' := pm) (o' := 2) (by omega) v2).c
  have z2 := (((a2.other (b' := pm) (o' := 0) (by omega) v0).other (b' := pm) (o' := 1) (by omega) v1).same v2).c
  have ff : Fr (fun i => i = pm) W (((W.setCell ⟨pm, 0, none⟩ v0).setCell ⟨pm, 1, none⟩ v1).setCell ⟨pm, 2, none⟩ v2) := (((Fr.refl (fun i => i = pm) W).setCell (p := ⟨pm, 0, none⟩) (fun _ => rfl) _).setCell (p := ⟨pm, 1, none⟩) (fun _ => rfl) _).setCell (p := ⟨pm, 2, none⟩) (fun _ => rfl) _
  generalize ((W.setCell ⟨pm, 0, none⟩ v0).setCell ⟨pm, 1, none⟩ v1).setCell ⟨pm, 2, none⟩ v2 = W4 at *
  have ht' : a.tmps[2]?.getD undef = .pointer (some ⟨pm, 0, none⟩) := by simpa using ht
  refine ⟨hd, _, ?_, hR _ ff⟩
  simp [results, hres, go_sem, ht', z0, z1, z2]

theorem smove_any {w : World} {C : Nat} {s : ByteArray} {p : Nat} (h : SN w C s p (-1)) : Calls Try.prog 98 #[.pointer (some ⟨C, 0, none⟩)] w fun e w' =>
    PostV (movP s p) C s e w' ∧ Fr (fun i => i = C) w w' := by
  have H := hid h
  have hC := h.dc.lt
  clear h
  have F0 := hid ((Fr.refl (fun _ => False) w).alloc (.cells #[.int .i64 0, .int .i64 0, .int .i64 0] 56))
  have H0 := hid (H.out.fr F0.out (fun h => h))
  have A0 : Hid (∀ q v, (#[.int .i64 0, .int .i64 0, .int .i64 0] : Array Value)[q]? = some v → At (w.alloc (.cells #[.int .i64 0, .int .i64 0, .int .i64 0] 56)) w.heap.size q v) := fun q v hv => At.new w _ _ hv
  rcases digP_cases s p with ⟨hb1, hd1⟩ | ⟨hb1, hd1⟩
  · rcases digP_cases s (p + 1) with ⟨hb2, hd2⟩ | ⟨hb2, hd2⟩
    · rcases hn : numP s (p + 1 + 1) with q | ⟨a, p3⟩
      · have hP : movP s p = .error q := by unfold movP; rw [hd1]; simp only; rw [hd2]; simp only; rw [hn]
        rw [hP]
        clear hP
        go_enter Try.func98, Try.ntmps98
        go_upto_region 1 with fail
        generalize w.alloc (.cells #[.int .i64 0, .int .i64 0, .int .i64 0] 56) = w0 at *
        obtain ⟨pm, hpm⟩ : ∃ pm, pm = w.heap.size := ⟨_, rfl⟩
        rw [← hpm] at A0 ⊢
        have HPM := hid hpm
        have hmC : pm ≠ C := by omega
        clear hpm
        go_wp2_with fail
        refine (sdig_any H0.out).mono ?_
        rintro e w1 ⟨hp1, f1⟩
        rw [hd1] at hp1
        obtain ⟨rfl, D1⟩ := hp1
        have D1 := hid D1
        have F1 := hid f1
        clear f1
        unfold iV
        go_wp2_with fail
        refine (sdig_any D1.out).mono ?_
        rintro e w2 ⟨hp2, f2⟩
        rw [hd2] at hp2
        obtain ⟨rfl, D2⟩ := hp2
        have D2 := hid D2
        have F2 := hid (F1.out.trans f2)
        clear f2
        unfold iV
        go_wp2_with fail
        refine (snum_any D2.out).mono ?_
        rintro e w3 ⟨hp3, f3⟩
        rw [hn] at hp3
        obtain ⟨⟨v, hv0, hv1, rfl⟩, p', sn⟩ := hp3
        have D3 := hid sn
        have F3 := hid (F2.out.trans f3)
        have A3 := hid (fun q v hv => (A0.out q v hv).fr F3.out hmC)
        clear f3 sn
        have m0 := (A3.out 0 _ rfl).c
        have m1 := (A3.out 1 _ rfl).c
        have m2 := (A3.out 2 _ rfl).c
        have x0 := (A3.out 0 _ rfl).f
        have x1 := (A3.out 1 _ rfl).f
        have x2 := (A3.out 2 _ rfl).f
        go_wp2_with fail
        refine mv_end Try.results98 rfl rfl (A3.out 0 _ rfl) (A3.out 1 _ rfl) (A3.out 2 _ rfl) (fun w' ff => ⟨⟨⟨⟨_, _, _⟩, rfl⟩, p', D3.out.fr ff (fun e => hmC e.symm)⟩, ((F0.out.mono (fun _ _ h => h.elim)).trans F3.out).then ff (fun i hi e => by have := HPM.out; omega)⟩)
      · have hP : movP s p = .ok (⟨dgV s p, dgV s (p + 1), a⟩, p3) := by unfold movP; rw [hd1]; simp only; rw [hd2]; simp only; rw [hn]
        rw [hP]
        clear hP
        go_enter Try.func98, Try.ntmps98
        go_upto_region 1 with fail
        generalize w.alloc (.cells #[.int .i64 0, .int .i64 0, .int .i64 0] 56) = w0 at *
        obtain ⟨pm, hpm⟩ : ∃ pm, pm = w.heap.size := ⟨_, rfl⟩
        rw [← hpm] at A0 ⊢
        have HPM := hid hpm
        have hmC : pm ≠ C := by omega
        clear hpm
        go_wp2_with fail
        refine (sdig_any H0.out).mono ?_
        rintro e w1 ⟨hp1, f1⟩
        rw [hd1] at hp1
        obtain ⟨rfl, D1⟩ := hp1
        have D1 := hid D1
        have F1 := hid f1
        clear f1
        unfold iV
        go_wp2_with fail
        refine (sdig_any D1.out).mono ?_
        rintro e w2 ⟨hp2, f2⟩
        rw [hd2] at hp2
        obtain ⟨rfl, D2⟩ := hp2
        have D2 := hid D2
        have F2 := hid (F1.out.trans f2)
        clear f2
        unfold iV
        go_wp2_with fail
        refine (snum_any D2.out).mono ?_
        rintro e w3 ⟨hp3, f3⟩
        rw [hn] at hp3
        obtain ⟨rfl, sn⟩ := hp3
        have D3 := hid sn
        unfold iV
        have F3 := hid (F2.out.trans f3)
        have A3 := hid (fun q v hv => (A0.out q v hv).fr F3.out hmC)
        clear f3 sn
        have m0 := (A3.out 0 _ rfl).c
        have m1 := (A3.out 1 _ rfl).c
        have m2 := (A3.out 2 _ rfl).c
        have x0 := (A3.out 0 _ rfl).f
        have x1 := (A3.out 1 _ rfl).f
        have x2 := (A3.out 2 _ rfl).f
        go_wp2_with fail
        refine mv_end Try.results98 rfl rfl (A3.out 0 _ rfl) (A3.out 1 _ rfl) (A3.out 2 _ rfl) (fun w' ff => ⟨⟨rfl, D3.out.fr ff (fun e => hmC e.symm)⟩, ((F0.out.mono (fun _ _ h => h.elim)).trans F3.out).then ff (fun i hi e => by have := HPM.out; omega)⟩)
    · have hP : movP s p = .error (p + 1) := by unfold movP; rw [hd1]; simp only; rw [hd2]
      rw [hP]
      clear hP
      go_enter Try.func98, Try.ntmps98
      go_upto_region 1 with fail
      generalize w.alloc (.cells #[.int .i64 0, .int .i64 0, .int .i64 0] 56) = w0 at *
      obtain ⟨pm, hpm⟩ : ∃ pm, pm = w.heap.size := ⟨_, rfl⟩
      rw [← hpm] at A0 ⊢
      have HPM := hid hpm
      have hmC : pm ≠ C := by omega
      clear hpm
      go_wp2_with fail
      refine (sdig_any H0.out).mono ?_
      rintro e w1 ⟨hp1, f1⟩
      rw [hd1] at hp1
      obtain ⟨rfl, D1⟩ := hp1
      have D1 := hid D1
      have F1 := hid f1
      clear f1
      unfold iV
      go_wp2_with fail
      refine (sdig_any D1.out).mono ?_
      rintro e w2 ⟨hp2, f2⟩
      rw [hd2] at hp2
      obtain ⟨⟨v, hv0, hv1, rfl⟩, p', sn⟩ := hp2
      have D2 := hid sn
      have F2 := hid (F1.out.trans f2)
      clear sn f2
      go_wp2_with fail
      refine (snum_fault D2.out (by omega)).mono ?_
      rintro e w3 ⟨rfl, hw3⟩
      have D3 : Hid (SN w3 C s p' ((p + 1 : Nat) : Int)) := by rw [hw3]; exact D2.out
      have f3 : Fr (fun i => i = C) w2 w3 := by rw [hw3]; exact Fr.refl _ _
      clear hw3
      have sn := True.intro
      have F3 := hid (F2.out.trans f3)
      have A3 := hid (fun q v hv => (A0.out q v hv).fr F3.out hmC)
      clear f3 sn
      have m0 := (A3.out 0 _ rfl).c
      have m1 := (A3.out 1 _ rfl).c
      have m2 := (A3.out 2 _ rfl).c
      have x0 := (A3.out 0 _ rfl).f
      have x1 := (A3.out 1 _ rfl).f
      have x2 := (A3.out 2 _ rfl).f
      go_wp2_with fail
      refine mv_end Try.results98 rfl rfl (A3.out 0 _ rfl) (A3.out 1 _ rfl) (A3.out 2 _ rfl) (fun w' ff => ⟨⟨⟨⟨_, _, _⟩, rfl⟩, p', D3.out.fr ff (fun e => hmC e.symm)⟩, ((F0.out.mono (fun _ _ h => h.elim)).trans F3.out).then ff (fun i hi e => by have := HPM.out; omega)⟩)
  · have hP : movP s p = .error p := by unfold movP; rw [hd1]
    rw [hP]
    clear hP
    go_enter Try.func98, Try.ntmps98
    go_upto_region 1 with fail
    generalize w.alloc (.cells #[.int .i64 0, .int .i64 0, .int .i64 0] 56) = w0 at *
    obtain ⟨pm, hpm⟩ : ∃ pm, pm = w.heap.size := ⟨_, rfl⟩
    rw [← hpm] at A0 ⊢
    have HPM := hid hpm
    have hmC : pm ≠ C := by omega
    clear hpm
    go_wp2_with fail
    refine (sdig_any H0.out).mono ?_
    rintro e w1 ⟨hp1, f1⟩
    rw [hd1] at hp1
    obtain ⟨⟨v, hv0, hv1, rfl⟩, p', sn⟩ := hp1
    have D1 := hid sn
    have F1 := hid f1
    clear sn f1
    go_wp2_with fail
    refine (sdig_fault D1.out (by omega)).mono ?_
    rintro e w2 ⟨rfl, hw2⟩
    have D2 : Hid (SN w2 C s p' (p : Int)) := by rw [hw2]; exact D1.out
    have F2 : Hid (Fr (fun i => i = C) w0 w2) := by rw [hw2]; exact F1.out
    clear hw2
    go_wp2_with fail
    refine (snum_fault D2.out (by omega)).mono ?_
    rintro e w3 ⟨rfl, hw3⟩
    have D3 : Hid (SN w3 C s p' (p : Int)) := by rw [hw3]; exact D2.out
    have f3 : Fr (fun i => i = C) w2 w3 := by rw [hw3]; exact Fr.refl _ _
    clear hw3
    have sn := True.intro
    have F3 := hid (F2.out.trans f3)
    have A3 := hid (fun q v hv => (A0.out q v hv).fr F3.out hmC)
    clear f3 sn
    have m0 := (A3.out 0 _ rfl).c
    have m1 := (A3.out 1 _ rfl).c
    have m2 := (A3.out 2 _ rfl).c
    have x0 := (A3.out 0 _ rfl).f
    have x1 := (A3.out 1 _ rfl).f
    have x2 := (A3.out 2 _ rfl).f
    go_wp2_with fail
    refine mv_end Try.results98 rfl rfl (A3.out 0 _ rfl) (A3.out 1 _ rfl) (A3.out 2 _ rfl) (fun w' ff => ⟨⟨⟨⟨_, _, _⟩, rfl⟩, p', D3.out.fr ff (fun e => hmC e.symm)⟩, ((F0.out.mono (fun _ _ h => h.elim)).trans F3.out).then ff (fun i hi e => by have := HPM.out; omega)⟩)

end Go.Proofs.Qxb6500452a
