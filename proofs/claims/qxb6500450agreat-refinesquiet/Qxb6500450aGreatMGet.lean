/- The model's Get. -/
import Derived.Test.Qxb6500450aGreatMAsk
namespace Go.Proofs.Qxb6500450aGreat
open Go Go.RowKit
set_option maxRecDepth 100000
set_option maxHeartbeats 1600000
set_option linter.unusedSimpArgs false
set_option linter.unusedVariables false

/-- The end of Get: the document's three cells are stored and read, beside the error. -/
theorem retD {fn : Func} {R : Ending → World → Prop} {a : Act} {W : World} {t u pa : Nat} {v0 v1 v2 e : Value} (hres : fn.results = #[.cell t 112, .tmp u]) (ht : a.tmps.getD t undef = .pointer (some ⟨pa, 0, none⟩)) (hu : a.tmps.getD u undef = e) (hd : a.defers = [])
    (h0 : Has W pa 0) (h1 : Has W pa 1) (h2 : Has W pa 2)
    (hR : R (.returned (.tuple #[.agg #[v0, v1, v2], e])) (((W.setCell ⟨pa, 0, none⟩ v0).setCell ⟨pa, 1, none⟩ v1).setCell ⟨pa, 2, none⟩ v2)) :
    bodyPost Tryz.prog fn R .ret a (((W.setCell ⟨pa, 0, none⟩ v0).setCell ⟨pa, 1, none⟩ v1).setCell ⟨pa, 2, none⟩ v2) := by
  obtain ⟨_, a0⟩ := h0
  obtain ⟨_, a1⟩ := h1
  obtain ⟨_, a2⟩ := h2
  have z0 := (((a0.same v0).other (b' := pa) (o' := 1) (by omega) v1).other (b' := pa) (o' := 2) (by omega) v2).c
  have z1 := (((a1.other (b' := pa) (o' := 0) (by omega) v0).same v1).other (b' := pa) (o' := 2) (by omega) v2).c
  have z2 := (((a2.other (b' := pa) (o' := 0) (by omega) v0).other (b' := pa) (o' := 1) (by omega) v1).same v2).c
  generalize ((W.setCell ⟨pa, 0, none⟩ v0).setCell ⟨pa, 1, none⟩ v1).setCell ⟨pa, 2, none⟩ v2 = W4 at *
  have ht' : a.tmps[t]?.getD undef = .pointer (some ⟨pa, 0, none⟩) := by simpa using ht
  have hu' : a.tmps[u]?.getD undef = e := by simpa using hu
  refine ⟨hd, _, ?_, hR⟩
  simp [results, hres, go_sem, ht', hu', z0, z1, z2]

theorem mget_any {w : World} {G : Nat → Prop} {bM : Nat} {f : DocF} {r : Int → Nat} (h : MR w G bM f r) (hG : ∀ i, G i → i < w.heap.size) (id : Int) :
    Calls Tryz.prog 93 #[.pointer (some ⟨bM, 0, none⟩), .int .i64 id] w fun e w' => e = .returned (.tuple #[docV (getP f id).i (getP f id).g (getP f id).t, .int .i64 (getP f id).e]) ∧ MR w' G bM f r ∧ Fr (fun i => i = bM) w w' := by
  obtain ⟨x, h4⟩ := h.ask
  have c1 := h4.c
  have x1 := h4.f
  have hb := h.lt
  have H := hid h
  have HGG := hid hG
  clear hG
  have FB : Hid (∀ c, Fr (fun i => i = bM) w ((w.setCell ⟨bM, 11, none⟩ (.int .i64 (wrap64 (x + 1)))).alloc c)) := fun c => ((Fr.refl (fun i => i = bM) w).setCell (p := ⟨bM, 11, none⟩) (fun _ => rfl) _).alloc _
  have HM : Hid (∀ c, MR ((w.setCell ⟨bM, 11, none⟩ (.int .i64 (wrap64 (x + 1)))).alloc c) G bM f r) := fun c => (H.out.asked _).frw ((Fr.refl (fun _ => False) _).alloc _) (fun _ _ h => h)
  clear h h4
  rcases hg : goodB id with _ | _
  · have HE : Hid (getP f id = noGot 2) := by simp [Hid, getP, hg]
    have hbad : id < 1 ∨ 9 < id := by simp [goodB] at hg; omega
    clear hg
    by_cases g1 : id < 1
    · clear hbad
      go_enter Tryz.func93, Tryz.ntmps93
      go_wp2_with fail
      exact bodyPost_ret (v := .tuple #[docV 0 0 ⟨#[]⟩, .int .i64 2]) (by simp [results, Tryz.results93, go_sem, docV]) rfl ⟨by rw [HE.out]; rfl, HM.out _, FB.out _⟩
    · have g2 : 9 < id := by omega
      clear hbad
      go_enter Tryz.func93, Tryz.ntmps93
      go_wp2_with fail
      exact bodyPost_ret (v := .tuple #[docV 0 0 ⟨#[]⟩, .int .i64 2]) (by simp [results, Tryz.results93, go_sem, docV]) rfl ⟨by rw [HE.out]; rfl, HM.out _, FB.out _⟩
  · have hgi : 1 ≤ id ∧ id ≤ 9 := by simpa [goodB] using hg
    obtain ⟨i1, i2⟩ := hgi
    obtain hf | ⟨d, hf⟩ := opt (f id)
    · have HE : Hid (getP f id = noGot 6) := by simp [Hid, getP, hg, hf]
      have HF := hid hf
      clear hf hg
      go_enter Tryz.func93, Tryz.ntmps93
      go_wp2_with fail
      refine (mat_any (HM.out _) i1 i2).mono ?_
      rintro e w2 ⟨rfl, f2⟩
      rw [HF.out]
      have HM2 := hid ((HM.out _).frw f2 (fun _ _ h => h))
      have FB2 := hid ((FB.out _).then f2 (fun _ _ h => h.elim))
      have hz : (w.setCell ⟨bM, 11, none⟩ (.int .i64 (wrap64 (x + 1)))).heap.size = w.heap.size := by simp
      have D : ∀ o v, (#[.int .i64 0, .int .i64 0, .string ⟨#[]⟩] : Array Value)[o]? = some v → At w2 w.heap.size o v := fun o v hv => by
        have := (At.new (w.setCell ⟨bM, 11, none⟩ (.int .i64 (wrap64 (x + 1)))) #[.int .i64 0, .int .i64 0, .string ⟨#[]⟩] 112 hv).fr f2 (fun h => h)
        rw [hz] at this
        exact this
      have d0 := D 0 _ rfl
      have d1 := D 1 _ rfl
      have d2 := D 2 _ rfl
      have HP : Hid (w.heap.size ≤ w.heap.size) := Nat.le_refl _
      clear f2 hz D FB HM H c1 x1
      obtain ⟨pa, hpa⟩ : ∃ pa, pa = w.heap.size := ⟨_, rfl⟩
      rw [← hpa] at d0 d1 d2
      try rw [← hpa]
      have HPA := hid hpa
      have hpb : bM ≠ pa := by omega
      clear hpa
      have e0 := d0.c
      have e1 := d1.c
      have e2 := d2.c
      have y0 := d0.f
      have y1 := d1.f
      have y2 := d2.f
      go_wp2_with fail
      exact retD Tryz.results93 rfl rfl rfl d0.has d1.has d2.has ⟨by rw [HE.out]; rfl, HM2.out.frw (set3_fr _ _ _ _ _) (fun i hi e => by have := HGG.out i hi; have := HPA.out; omega), FB2.out.then (set3_fr _ _ _ _ _) (fun i hi e => by have := HPA.out; omega)⟩
    · have HE : Hid (getP f id = ⟨id, d.1, d.2, 0⟩) := by simp [Hid, getP, hg, hf]
      have HF := hid hf
      clear hf hg
      go_enter Tryz.func93, Tryz.ntmps93
      go_wp2_with fail
      refine (mat_any (HM.out _) i1 i2).mono ?_
      rintro e w2 ⟨rfl, f2⟩
      rw [HF.out]
      have HM2 := hid ((HM.out _).frw f2 (fun _ _ h => h))
      have FB2 := hid ((FB.out _).then f2 (fun _ _ h => h.elim))
      have hz : (w.setCell ⟨bM, 11, none⟩ (.int .i64 (wrap64 (x + 1)))).heap.size = w.heap.size := by simp
      have D : ∀ o v, (#[.int .i64 0, .int .i64 0, .string ⟨#[]⟩] : Array Value)[o]? = some v → At w2 w.heap.size o v := fun o v hv => by
        have := (At.new (w.setCell ⟨bM, 11, none⟩ (.int .i64 (wrap64 (x + 1)))) #[.int .i64 0, .int .i64 0, .string ⟨#[]⟩] 112 hv).fr f2 (fun h => h)
        rw [hz] at this
        exact this
      have d0 := D 0 _ rfl
      have d1 := D 1 _ rfl
      have d2 := D 2 _ rfl
      have HP : Hid (w.heap.size ≤ w.heap.size) := Nat.le_refl _
      clear f2 hz D FB HM H c1 x1
      obtain ⟨pa, hpa⟩ : ∃ pa, pa = w.heap.size := ⟨_, rfl⟩
      rw [← hpa] at d0 d1 d2
      try rw [← hpa]
      have HPA := hid hpa
      have hpb : bM ≠ pa := by omega
      clear hpa
      have hrow : ∃ gb cap, At w2 bM 0 (.slice (some ⟨gb, 0, none⟩) (lst f).length cap) ∧ (atN f id < (lst f).length) ∧ At w2 gb (atN f id * 3) (.int .i64 id) ∧ At w2 gb (atN f id * 3 + 1) (.int .i64 d.1) ∧ At w2 gb (atN f id * 3 + 2) (.string d.2) := by
        obtain ⟨v, q1, q2, q3⟩ := HM2.out.row
        rcases at_here (f := f) i1 i2 with ⟨hn, _⟩ | ⟨hl, _, d', hd', hg'⟩ | ⟨hn, _⟩
        · rw [HF.out] at hn; cases hn
        · rw [HF.out] at hd'
          cases hd'
          obtain ⟨a, cap, rfl, ha⟩ := q2.slice
          obtain ⟨gb, rfl, _, _⟩ := ha (fun e => by rw [e] at hl; simp at hl)
          have := q2.cell rfl hl
          rw [hg'] at this
          exact ⟨gb, cap, q1, hl, this⟩
        · rw [HF.out] at hn; cases hn
      obtain ⟨gb, cap, q1, hl, k0, k1, k2⟩ := hrow
      have b0 := q1.c
      have b1 := k0.c
      have b2 := k1.c
      have b3 := k2.c
      clear q1 k0 k1 k2
      generalize (lst f).length = L at *
      generalize atN f id = A at *
      have hlI : (A : Int) < (L : Int) := by omega
      have hA0 : (0 : Int) ≤ (A : Int) := by omega
      have e0 := d0.c
      have e1 := d1.c
      have e2 := d2.c
      have y0 := d0.f
      have y1 := d1.f
      have y2 := d2.f
      go_wp2_with fail
      exact retD Tryz.results93 rfl rfl rfl d0.has d1.has d2.has ⟨by rw [HE.out]; rfl, HM2.out.frw (set3_fr _ _ _ _ _) (fun i hi e => by have := HGG.out i hi; have := HPA.out; omega), FB2.out.then (set3_fr _ _ _ _ _) (fun i hi e => by have := HPA.out; omega)⟩

end Go.Proofs.Qxb6500450aGreat
