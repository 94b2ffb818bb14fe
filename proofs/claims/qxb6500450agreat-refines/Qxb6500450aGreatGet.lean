/- New, Get, Del. -/
import Derived.Test.Qxb6500450aGreatRep
namespace Go.Proofs.Qxb6500450aGreat
open Go Go.RowKit
set_option maxRecDepth 100000
set_option maxHeartbeats 800000
set_option linter.unusedSimpArgs false
set_option linter.unusedVariables false

def docV (i g : Int) (t : ByteArray) : Value := .agg #[.int .i64 i, .int .i64 g, .string t]

/-- What Get answers. -/
structure GotV where
  i : Int
  g : Int
  t : ByteArray
  e : Int
def noGot (e : Int) : GotV := ⟨0, 0, ⟨#[]⟩, e⟩
def getP (f : DocF) (id : Int) : GotV := if goodB id then (match f id with | some d => ⟨id, d.1, d.2, 0⟩ | none => noGot 6) else noGot 2

theorem mk6 (w : World) : (Instr.makeMap 73 (some (.int .i64 6))).run Tryz.prog w = .ok (.map (some w.heap.size)) (w.alloc (.map #[] 0)) := by kernel_rfl

theorem cm_zero : (fun _ => none) = cm (fun _ => 0) := by funext k; simp [cm]

theorem new_any (w : World) : Calls Tryz.prog 19 #[] w fun e w' => e = .returned (.pointer (some ⟨w.heap.size + 3, 0, none⟩)) ∧ SR w' (fun i => w.heap.size ≤ i) (w.heap.size + 3) noD (fun _ => 0) ∧ Fr (fun _ => False) w w' := by
  have m1 := mk6
  have m2 := @run_makeMap Tryz.prog
  go_enter Tryz.func19, Tryz.ntmps19
  go_wp2_with fail
  go_ret
  have a0 := MapF.new ik w
  have f0 : Fr (fun _ => False) w (w.alloc (.map #[] 0)) := (Fr.refl _ _).alloc _
  have z0 : (w.alloc (.map #[] 0)).heap.size = w.heap.size + 1 := by simp
  generalize w.alloc (.map #[] 0) = w1 at *
  have a1 := MapF.new ik w1
  have f1 : Fr (fun _ => False) w1 (w1.alloc (.map #[] 0)) := (Fr.refl _ _).alloc _
  have z1 : (w1.alloc (.map #[] 0)).heap.size = w.heap.size + 2 := by simp [z0]
  rw [z0] at a1
  generalize w1.alloc (.map #[] 0) = w2 at *
  have a2 := MapF.new ik w2
  have f2 : Fr (fun _ => False) w2 (w2.alloc (.map #[] 0)) := (Fr.refl _ _).alloc _
  have z2 : (w2.alloc (.map #[] 0)).heap.size = w.heap.size + 3 := by simp [z1]
  rw [z1] at a2
  generalize w2.alloc (.map #[] 0) = w3 at *
  refine ⟨by simp, ⟨w.heap.size, w.heap.size + 1, w.heap.size + 2, fun _ => 0, 0, 0, 0, ?_⟩, ((f0.trans f1).trans f2).trans ((Fr.refl _ _).alloc _)⟩
  have g : ∀ {o v}, (#[.map (some w.heap.size), .map (some (w.heap.size + 1)), .map (some (w.heap.size + 2))] : Array Value)[o]? = some v → At (w3.alloc (.cells #[.map (some w.heap.size), .map (some (w.heap.size + 1)), .map (some (w.heap.size + 2))] 76)) (w.heap.size + 3) o v := fun {o v} h => by
    have := At.new w3 _ 76 h
    rw [z2] at this
    exact this
  have f3 : ∀ c, Fr (fun _ => False) w3 (w3.alloc c) := fun c => (Fr.refl _ _).alloc _
  refine ⟨g rfl, g rfl, g rfl, ?_, ?_, ?_, by omega, by omega, by omega, fun k d hd => by simp [noD] at hd, fun j k hj => by simp [noD] at hj, fun k hk => by simp [noD] at hk, fun k hk => by simp [noD] at hk, Nat.le_add_right _ _, Nat.le_refl _, Nat.le_add_right _ _, Nat.le_add_right _ _, OkF.no, fun k hk => by simp [noD] at hk, fun k hk => absurd hk (by decide)⟩
  · rw [← dm_no]; exact ((a0.fr f1 (fun h => h)).fr f2 (fun h => h)).fr (f3 _) (fun h => h)
  · rw [← cm_zero]; exact (a1.fr f2 (fun h => h)).fr (f3 _) (fun h => h)
  · rw [← cm_no]; exact a2.fr (f3 _) (fun h => h)

theorem get_any {w : World} {F : Nat → Prop} {bS : Nat} {f : DocF} {r : Int → Nat} (h : SR w F bS f r) (id : Int) :
    Calls Tryz.prog 76 #[.pointer (some ⟨bS, 0, none⟩), .int .i64 id] w fun e w' => e = .returned (.tuple #[docV (getP f id).i (getP f id).g (getP f id).t, .int .i64 (getP f id).e]) ∧ Fr (fun _ => False) w w' := by
  obtain ⟨bd, br, bg, p, n, m, q, h⟩ := h
  have H := hid h
  have s0 := h.s0.c
  clear h
  have fa : ∀ c, Fr (fun _ => False) w (w.alloc c) := fun c => (Fr.refl _ _).alloc _
  have hb : bS < w.heap.size := H.out.s0.lt
  rcases hg : goodB id with _ | _
  · have HE : Hid (getP f id = noGot 2) := by simp [Hid, getP, hg]
    go_enter Tryz.func76, Tryz.ntmps76
    go_wp2_with (first
      | (go_at_call 100; refine (good_any id _).mono ?_; rintro e w1 ⟨rfl, hw1⟩; obtain rfl := hw1.symm; rw [hg])
      | go_in)
    exact bodyPost_ret (v := .tuple #[docV 0 0 ⟨#[]⟩, .int .i64 2]) (by simp [results, Tryz.results76, go_sem, docV]) rfl ⟨by rw [HE.out]; rfl, (Fr.refl _ _).alloc _⟩
  · obtain hf | ⟨d, hf⟩ := opt (f id)
    · have HE : Hid (getP f id = noGot 6) := by simp [Hid, getP, hg, hf]
      have HD : Hid (dm p f id = none) := by simp [Hid, dm, hf]
      go_enter Tryz.func76, Tryz.ntmps76
      go_wp2_with (first
        | (go_at_call 100; refine (good_any id _).mono ?_; rintro e w1 ⟨rfl, hw1⟩; obtain rfl := hw1.symm; rw [hg])
        | (at_lookup; refine wp_look2 rfl rfl kInt uDocs zPtr (H.out.md.fr (fa _) (fun h => h)) rfl (k := id) rfl (v := .pointer none) (s := false) (by rw [HD.out]; rfl) (by rw [HD.out]; rfl) ?_)
        | go_in)
      exact bodyPost_ret (v := .tuple #[docV 0 0 ⟨#[]⟩, .int .i64 6]) (by simp [results, Tryz.results76, go_sem, docV]) rfl ⟨by rw [HE.out]; rfl, (Fr.refl _ _).alloc _⟩
    · have HE : Hid (getP f id = ⟨id, d.1, d.2, 0⟩) := by simp [Hid, getP, hg, hf]
      have HD : Hid (dm p f id = some (.pointer (some ⟨p id, 0, none⟩))) := by simp [Hid, dm, hf]
      have ha := H.out.docs id d hf
      have c0 := ha.c0.c
      have c1 := ha.c1.c
      have c2 := ha.c2.c
      have hp := ha.c0.lt
      clear hf ha
      generalize p id = pb at *
      go_enter Tryz.func76, Tryz.ntmps76
      go_wp2_with (first
        | (go_at_call 100; refine (good_any id _).mono ?_; rintro e w1 ⟨rfl, hw1⟩; obtain rfl := hw1.symm; rw [hg])
        | (at_lookup; refine wp_look2 rfl rfl kInt uDocs zPtr (H.out.md.fr (fa _) (fun h => h)) rfl (k := id) rfl (v := .pointer (some ⟨pb, 0, none⟩)) (s := true) (by rw [HD.out]; rfl) (by rw [HD.out]; rfl) ?_)
        | go_in)
      exact bodyPost_ret (v := .tuple #[docV id d.1 d.2, .int .i64 0]) (by simp [results, Tryz.results76, go_sem, docV]) rfl ⟨by rw [HE.out], (Fr.refl _ _).alloc _⟩

def delE (f : DocF) (id : Int) : Int := if goodB id then (if (f id).isSome then 0 else 6) else 2

theorem delD_none {f : DocF} {id : Int} (h : f id = none) : delD f id = f := by
  funext j
  unfold delD
  split
  · rename_i e; subst e; exact h.symm
  · rfl

theorem notGood {f : DocF} (h : OkF f) {id : Int} (hg : goodB id = false) : f id = none := by
  obtain e | ⟨d, e⟩ := opt (f id)
  · exact e
  · obtain ⟨h1, h2, _⟩ := h.rng id d e
    simp [goodB, h1, h2] at hg

theorem dm_del (p : Int → Nat) (f : DocF) (id : Int) : updF (dm p f) id none = dm p (delD f id) := by
  funext j
  unfold updF dm delD
  split <;> rfl

theorem del_any {w : World} {F : Nat → Prop} {bS : Nat} {f : DocF} {r : Int → Nat} (h : SR w F bS f r) (id : Int) :
    Calls Tryz.prog 80 #[.pointer (some ⟨bS, 0, none⟩), .int .i64 id] w fun e w' => e = .returned (.int .i64 (delE f id)) ∧ SR w' F bS (delD f id) r ∧ Fr F w w' := by
  have H0 := hid h
  obtain ⟨bd, br, bg, p, n, m, q, h⟩ := h
  have H := hid h
  have s0 := h.s0.c
  clear h
  rcases hg : goodB id with _ | _
  · have HE : Hid (delE f id = 2) := by simp [Hid, delE, hg]
    have HN : Hid (delD f id = f) := delD_none (notGood H.out.ok hg)
    go_enter Tryz.func80, Tryz.ntmps80
    go_wp2_with (first
      | (go_at_call 100; refine (good_any id _).mono ?_; rintro e w1 ⟨rfl, hw1⟩; obtain rfl := hw1.symm; rw [hg])
      | go_in)
    go_ret
    rw [HE.out, HN.out]
    exact ⟨rfl, H0.out, Fr.refl _ _⟩
  · obtain hf | ⟨d, hf⟩ := opt (f id)
    · have HE : Hid (delE f id = 6) := by simp [Hid, delE, hg, hf]
      have HN : Hid (delD f id = f) := delD_none hf
      have HD : Hid (dm p f id = none) := by simp [Hid, dm, hf]
      go_enter Tryz.func80, Tryz.ntmps80
      go_wp2_with (first
        | (go_at_call 100; refine (good_any id _).mono ?_; rintro e w1 ⟨rfl, hw1⟩; obtain rfl := hw1.symm; rw [hg])
        | (at_lookup; refine wp_look2 rfl rfl kInt uDocs zPtr H.out.md rfl (k := id) rfl (v := .pointer none) (s := false) (by rw [HD.out]; rfl) (by rw [HD.out]; rfl) ?_)
        | go_in)
      go_ret
      rw [HE.out, HN.out]
      exact ⟨rfl, H0.out, Fr.refl _ _⟩
    · have HE : Hid (delE f id = 0) := by simp [Hid, delE, hg, hf]
      have HD : Hid (dm p f id = some (.pointer (some ⟨p id, 0, none⟩))) := by simp [Hid, dm, hf]
      have ha := H.out.docs id d hf
      have c1 := ha.c1.c
      have HF := hid hf
      have hdS := H.out.md.ne_at H.out.s0
      have hgS := H.out.mg.ne_at H.out.s0
      have n1 := hid H.out.ne1
      have n2 := hid H.out.ne2
      have n3 := hid H.out.ne3
      have HC : Hid (1 ≤ cnt f d.1 ∧ cnt f d.1 < 4611686018427387904) := by
        have h1 := cnt_pos H.out.ok (t := d.2) (g := d.1) hf
        have h2 := cnt_le f d.1
        have h3 := nDocs_le f
        exact ⟨h1, by omega⟩
      have HX : Hid (cnt (delD f id) = decC (cnt f) d.1) := cnt_del_eq H.out.ok (t := d.2) hf
      clear ha
      clear hf
      obtain ⟨pb, hpb⟩ : ∃ pb, pb = p id := ⟨_, rfl⟩
      rw [← hpb] at c1 HD
      clear hpb
      go_enter Tryz.func80, Tryz.ntmps80
      go_wp2_with (first
        | (go_at_call 100; refine (good_any id _).mono ?_; rintro e w1 ⟨rfl, hw1⟩; obtain rfl := hw1.symm; rw [hg])
        | (at_lookup; refine wp_look2 rfl rfl kInt uDocs zPtr H.out.md rfl (k := id) rfl (v := .pointer (some ⟨pb, 0, none⟩)) (s := true) (by rw [HD.out]; rfl) (by rw [HD.out]; rfl) ?_)
        | (go_at_call 102; refine (leave_any H.out.s2 H.out.mg HC.out.1 HC.out.2).mono ?_; rintro e w1 ⟨rfl, ⟨q1, mg1⟩, f1, z1⟩; have s0' := (H.out.s0.fr f1 (fun e => hgS e.symm)).c; have md1 := H.out.md.fr f1 (fun e => n2.out e))
        | (at_delete; refine wp_del rfl rfl kInt uDocs md1 rfl (k := id) rfl ?_; intro w2 md2 f2 z2)
        | go_in)
      go_ret
      have f12 : Fr F w w2 := (f1.mono (S' := F) (fun i _ e => e ▸ H.out.fg)).then (f2.mono (S' := F) (fun i _ e => e ▸ H.out.fd)) (fun _ _ h => h)
      have g : ∀ {o v}, At w bS o v → At w2 bS o v := fun h => (h.fr f1 (fun e => hgS e.symm)).fr f2 (fun e => hdS e.symm)
      rw [dm_del] at md2
      rw [← HX.out] at mg1
      have sub : ∀ k, (delD f id k).isSome = true → (f k).isSome = true := fun k hk => by
        unfold delD at hk
        split at hk
        · cases hk
        · exact hk
      rw [HE.out]
      refine ⟨rfl, ⟨bd, br, bg, p, _, m, _, ⟨g H.out.s0, g H.out.s1, g H.out.s2, md2, (H.out.mr.fr f1 (fun e => n3.out e)).fr f2 (fun e => n1.out e.symm), mg1.fr f2 (fun e => n2.out e.symm), n1.out, n2.out, n3.out, fun k d' hd => ?_, fun j k hj hk => H.out.inj j k (sub j hj) (sub k hk), fun k hk => H.out.pne k (sub k hk), fun k hk => H.out.pF k (sub k hk), H.out.fS, H.out.fd, H.out.fr, H.out.fg, H.out.ok.del id, fun k hk => H.out.rlo k (sub k hk), H.out.rrg⟩⟩, f12⟩
      have hd' : f k = some d' := by
        unfold delD at hd
        split at hd
        · cases hd
        · exact hd
      have := H.out.docs k d' hd'
      exact (this.fr f1 (fun e => H.out.mg.ne_at this.c0 e.symm)).fr f2 (fun e => H.out.md.ne_at this.c0 e.symm)

end Go.Proofs.Qxb6500450aGreat
