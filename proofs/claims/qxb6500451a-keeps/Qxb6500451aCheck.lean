/- Check. -/
import Derived.Test.Qxb6500451aShow
namespace Go.Proofs.Qxb6500451a
open Go Go.RowKit
set_option maxRecDepth 100000
set_option maxHeartbeats 1600000
set_option linter.unusedSimpArgs false
set_option linter.unusedVariables false

/-- The documents that have come out. -/
def doneD (f : DocF) (left : List Int) : DocF := fun j => if j ∈ left then none else f j

theorem doneD_nil (f : DocF) : doneD f [] = f := by funext j; simp [doneD]
theorem doneD_start {f : DocF} {left : List Int} (h : ∀ k, k ∈ left ↔ (f k).isSome = true) : doneD f left = noD := by
  funext j
  unfold doneD noD
  split
  · rfl
  · rename_i hj
    obtain e | ⟨d, e⟩ := opt (f j)
    · exact e
    · exact absurd ((h j).2 (by rw [e]; rfl)) hj
theorem doneD_step {f : DocF} {k : Int} {d : Int × ByteArray} {left : List Int} (h : f k = some d) : doneD f (left.filter (· ≠ k)) = putD (doneD f left) k d.1 d.2 := by
  funext j
  unfold doneD putD
  by_cases e : j = k
  · subst e; simp [h]
  · simp [e]
theorem doneD_in {f : DocF} {k : Int} {left : List Int} (h : k ∈ left) : doneD f left k = none := by unfold doneD; rw [if_pos h]

theorem MapF.same_len {w w' : World} {b b' n n' : Nat} {f : Int → Option Value} (h : MapF ik w b f n) (h' : MapF ik w' b' f n') : n = n' := by
  obtain ⟨l, c, h1, h2, h3, rfl⟩ := h
  obtain ⟨l', c', h1', h2', h3', rfl⟩ := h'
  have key : ∀ {l l' : List (Ent Int)}, (l.map (·.key)).Nodup → (∀ k, look l k = f k) → (∀ k, look l' k = f k) → ∀ x ∈ l.map (·.key), x ∈ l'.map (·.key) := fun {l l'} hn ha hb x hx => by
    obtain ⟨e, he, rfl⟩ := List.mem_map.1 hx
    have h := look_of_mem hn he
    rw [ha, ← hb] at h
    obtain ⟨e', he', hk, _⟩ := look_mem h
    rw [← hk]
    exact List.mem_map_of_mem he'
  have a := nodup_len h2.keys (key h2.keys h3 h3')
  have b := nodup_len h2'.keys (key h2'.keys h3' h3)
  simp only [List.length_map] at a b
  omega

theorem cm_some {c : Int → Nat} {k : Int} {v : Value} (h : cm c k = some v) : 1 ≤ c k ∧ v = .int .i64 (c k : Int) := by
  unfold cm at h
  split at h
  · cases h
  · exact ⟨by omega, by simpa using h.symm⟩

theorem nilDocs (b : Nat) (w : World) : (binOp BinOp.eql 55 (.map (some b)) (.map none)).run Try.prog w = .ok (.bool false) w := by kernel_rfl
theorem nilInts (b : Nat) (w : World) : (binOp BinOp.eql 56 (.map (some b)) (.map none)).run Try.prog w = .ok (.bool false) w := by kernel_rfl
theorem nilDoc (a : Addr) (w : World) : (binOp BinOp.eql 59 (.pointer (some a)) (.pointer none)).run Try.prog w = .ok (.bool false) w := by kernel_rfl

theorem check_any {w : World} {F : Nat → Prop} {bS : Nat} {f : DocF} {r : Int → Nat} (h : SR w F bS f r) :
    Calls Try.prog 35 #[.pointer (some ⟨bS, 0, none⟩)] w fun e w' => e = .returned (.bool true) ∧ Fr (fun _ => False) w w' := by
  obtain ⟨bd, br, bg, p, n, m, q, h⟩ := h
  have e := h.md.count h.ok
  subst e
  have H := hid h
  have HO := hid h.ok
  have s0 := h.s0.c
  have s1 := h.s1.c
  have s2 := h.s2.c
  have hb := h.s0.lt
  have hlen := h.md.len (P := Try.prog) (ty := 3) uDocs
  have hfew := h.ok.few
  have h6 : decide ((6 : Int) < (nDocs f : Int)) = false := by simp; omega
  have HF := hid hfew
  have m0 := @run_makeMap Try.prog
  have q1 := nilDocs
  have q2 := nilInts
  have q3 := nilDoc
  clear h hfew
  go_enter Try.func35, Try.ntmps35
  go_wp2_with (first
    | (at_range; refine wp_range rfl rfl uDocs (H.out.md.fr ((Fr.refl (fun _ => False) _).alloc _) (fun h => h)) rfl ?_; intro w1 left0 rg1 ln1 lm1 f1 z1; go_frame)
    | go_in)
  have M1 := hid ((MapF.new ik w).fr (S := fun _ => False) f1 (fun h => h))
  have F1 := hid (((Fr.refl (fun _ => False) w).alloc _).trans f1)
  have hz1 : w1.heap.size = w.heap.size + 2 := by rw [z1]; simp
  have L1 : Hid (∀ k, k ∈ left0 ↔ (f k).isSome = true) := fun k => by rw [lm1 k]; simp [dm]
  simp only [World.size_alloc] at rg1 ⊢
  obtain ⟨bc, hbc⟩ : ∃ bc, bc = w.heap.size := ⟨_, rfl⟩
  rw [← hbc] at rg1 M1 hz1 ⊢
  have HBC := hid hbc
  clear f1 z1 lm1 ln1 hbc hlen h6
  go_loopw [4] (fun _ wr => ∃ left n', Ranges ik wr bd (bc + 1) (dm p f) left ∧ MapF ik wr bc (cm (cnt (doneD f left))) n' ∧ Fr (fun _ => False) w wr ∧ bc + 2 ≤ wr.heap.size) (fun _ wr => wr.rangeLeft bd (bc + 1))
  case atStart => exact ⟨left0, 0, rg1, by rw [doneD_start L1.out, ← cm_no]; exact M1.out, F1.out, by omega⟩
  case round =>
    clear M1 F1 rg1 L1
    obtain ⟨left, n', rg, mc, fr, hsz⟩ := hrel
    have RG := hid rg
    have MC := hid mc
    have FR := hid fr
    have s0' := (H.out.s0.fr fr (fun h => h)).c
    have s1' := (H.out.s1.fr fr (fun h => h)).c
    have s2' := (H.out.s2.fr fr (fun h => h)).c
    clear s0 s1 s2 fr mc
    rcases rg.next (P := Try.prog) 0 with ⟨hnil, hrun⟩ | ⟨k, v, w2, hk, hv, hrun, hen, rg2, f2, z2⟩
    · clear rg RG
      subst hnil
      rw [doneD_nil] at MC
      have e := MC.out.same_len H.out.mg
      subst e
      have MG := hid (H.out.mg.fr FR.out (fun h => h))
      have hl1 : ∀ j, (Builtin.len_ #[56] 3 #[.map (some bc)]).run Try.prog (wr.drewN j) = .ok (.int .i64 (n' : Int)) (wr.drewN j) := fun j => (MC.out.fr ((Fr.refl (fun _ => False) _).drewN j) (fun h => h)).len (ty := 3) uInts
      have hl2 : ∀ j, (Builtin.len_ #[56] 3 #[.map (some bg)]).run Try.prog (wr.drewN j) = .ok (.int .i64 (n' : Int)) (wr.drewN j) := fun j => (MG.out.fr ((Fr.refl (fun _ => False) _).drewN j) (fun h => h)).len (ty := 3) uInts
      go_wp2_with fail
      go_quiet (fail)
      have MCq := hid (MC.out.fr ((Fr.refl (fun _ => False) _).drewN nq) (fun h => h))
      have FQ := hid (FR.out.drewN nq)
      have t2 := (H.out.s2.fr FQ.out (fun h => h)).c
      generalize wr.drewN nq = wq at *
      clear hl1 hl2 s0' s1' s2' hrun MC MG FR
      go_wp2_with (first
        | (at_range; refine wp_range rfl rfl uInts (H.out.mg.fr FQ.out (fun h => h)) rfl ?_; intro w3 left3 rg3 ln3 lm3 f3 z3; go_frame)
        | go_in)
      obtain ⟨r2, hr2⟩ : ∃ r2, r2 = wq.heap.size := ⟨_, rfl⟩
      rw [← hr2] at rg3 z3 ⊢
      have HR2 := hid hr2
      have MC3 := hid (MCq.out.fr (S := fun _ => False) f3 (fun h => h))
      have F3 := hid (FQ.out.trans f3)
      have hwr2 : w.heap.size ≤ r2 := by rw [hr2]; exact FQ.out.size
      have hbr2 : bc < r2 := by rw [hr2]; exact MCq.out.lt
      have hr23 : r2 < w3.heap.size := rg3.lt.2
      clear f3 z3 lm3 ln3 hr2 MCq FQ t2
      go_loopw [6] (fun _ wr => ∃ left, Ranges ik wr bg r2 (cm (cnt f)) left ∧ MapF ik wr bc (cm (cnt f)) n' ∧ Fr (fun _ => False) w wr ∧ r2 < wr.heap.size) (fun _ wr => wr.rangeLeft bg r2)
      case atStart => exact ⟨left3, rg3, MC3.out, F3.out, hr23⟩
      case round =>
        clear rg3 MC3 F3
        obtain ⟨left, rg, mc, fr, hsz2⟩ := hrel
        have RG := hid rg
        have MC := hid mc
        have FR := hid fr
        clear mc fr
        rcases rg.next (P := Try.prog) 0 with ⟨hnil, hrun⟩ | ⟨k, v, w2, hk, hv, hrun, hen, rg2, f2, z2⟩
        · clear rg
          subst hnil
          have s1 := (H.out.s1.fr FR.out (fun h => h)).c
          go_wp2_with (first
            | (at_range; refine wp_range rfl rfl uInts (H.out.mr.fr FR.out (fun h => h)) rfl ?_; intro w4 left4 rg4 ln4 lm4 f4 z4; go_frame)
            | go_in)
          obtain ⟨r4, hr4⟩ : ∃ r4, r4 = wr.heap.size := ⟨_, rfl⟩
          rw [← hr4] at rg4 z4 ⊢
          have hwr4 : w.heap.size ≤ r4 := by rw [hr4]; exact FR.out.size
          have F4 := hid (FR.out.trans f4)
          clear f4 z4 lm4 ln4 hr4 s1 hrun
          go_loopw [8] (fun _ wr => ∃ left, Ranges ik wr br r4 (cm r) left ∧ Fr (fun _ => False) w wr) (fun _ wr => wr.rangeLeft br r4)
          case atStart => exact ⟨left4, rg4, F4.out⟩
          case round =>
            clear rg4 F4 RG FR MC
            obtain ⟨left, rg, fr⟩ := hrel
            have RG := hid rg
            have FR := hid fr
            clear fr
            rcases rg.next (P := Try.prog) 0 with ⟨hnil, hrun⟩ | ⟨k, v, w2, hk, hv, hrun, hen, rg2, f2, z2⟩
            · clear rg
              go_wp2_with fail
              go_ret
              exact ⟨rfl, FR.out⟩
            · obtain ⟨hc1, rfl⟩ := cm_some hv
              have hg : goodB k = true := by have := H.out.rrg k hc1; simp [goodB]; omega
              have hlt : decide ((r k : Int) < 1) = false := by simp; omega
              have RG2 := hid rg2
              have HK := hid hk
              have F2 := hid (FR.out.then f2 (fun i hi e => by omega))
              simp only [ik] at hrun hen
              clear rg rg2 f2 z2 hv hc1
              clear hk
              go_wp2_with (first
                | (go_at_call 25; refine (good_any k _).mono ?_; rintro e w1 ⟨rfl, hw1⟩; obtain rfl := hw1.symm; rw [hg])
                | fail)
              exact ⟨⟨_, RG2.out, F2.out⟩, by rw [RG2.out.left_eq, RG.out.left_eq]; exact filter_lt HK.out⟩
        · obtain ⟨hc1, rfl⟩ := cm_some hv
          have hlt : decide ((cnt f k : Int) < 1) = false := by simp; omega
          have RG2 := hid rg2
          have HK := hid hk
          have F2 := hid (FR.out.then f2 (fun i hi e => by omega))
          have MC2 := hid (MC.out.fr f2 (fun e => by omega))
          have hlk := MC2.out.lookup kInt uInts (zInt _) k false
          rw [cm_get] at hlk
          simp only [ik, Bool.false_eq_true, if_false] at hrun hen hlk
          have hs2 : r2 < w2.heap.size := by omega
          clear rg rg2 f2 z2 hv hc1
          clear hk
          go_wp2_with fail
          exact ⟨⟨_, RG2.out, MC2.out, F2.out, hs2⟩, by rw [RG2.out.left_eq, RG.out.left_eq]; exact filter_lt HK.out⟩
    · have hfk : ∃ d, f k = some d ∧ v = .pointer (some ⟨p k, 0, none⟩) := by
        unfold dm at hv
        obtain e | ⟨d, e⟩ := opt (f k)
        · rw [e] at hv; cases hv
        · rw [e] at hv; exact ⟨d, e, by simpa using hv.symm⟩
      obtain ⟨d, hf, rfl⟩ := hfk
      obtain ⟨k1, k2, d1, d2, d3⟩ := HO.out.rng k d hf
      have f02 : Fr (fun _ => False) w w2 := FR.out.then f2 (fun i hi e => by have := HBC.out; omega)
      have F02 := hid f02
      have h0 := (H.out.docs k d hf).fr f02 (fun h => h)
      have c0 := h0.c0.c
      have c1 := h0.c1.c
      have c2 := h0.c2.c
      have t1 := (H.out.s1.fr f02 (fun h => h)).c
      have RG2 := hid rg2
      have HK := hid hk
      have MC2 := hid (MC.out.fr f2 (fun e => by omega))
      have hlk := (H.out.mr.fr f02 (fun h => h)).lookup kInt uInts (zInt _) k false
      rw [cm_get] at hlk
      have hr1 := H.out.rlo k (by rw [hf]; rfl)
      have hrb : decide ((r k : Int) < 1) = false := by simp; omega
      have hg : goodB k = true := by simp [goodB]; omega
      have hd1 : decide (d.1 < 0) = false := by simp; omega
      have hd2 : decide ((2 : Int) < d.1) = false := by simp; omega
      have hd3 : decide ((12 : Int) < (d.2.size : Int)) = false := by simp; omega
      have HS : Hid (cnt (doneD f (left.filter (· ≠ k))) = incC (cnt (doneD f left)) d.1) := by
        unfold Hid
        rw [doneD_step hf]
        exact cnt_put_new k1 k2 (doneD_in hk) d.1 d.2
      have HGC := hid (cm_get (cnt (doneD f left)) d.1)
      have hcl : (cnt (doneD f left) d.1 : Int) < 10 := by have := cnt_le (doneD f left) d.1; have := nDocs_le (doneD f left); omega
      have hc0 : (0 : Int) ≤ (cnt (doneD f left) d.1 : Int) := by omega
      generalize hcg : (cnt (doneD f left) d.1 : Int) = cg at *
      have HCG := hid hcg
      simp only [ik, Bool.false_eq_true, if_false] at hrun hen hlk
      have hs2 : bc + 2 ≤ w2.heap.size := by omega
      clear rg rg2 hv hf h0 f02 f2 z2 hcg s0' s1' s2' hr1
      clear hk
      obtain ⟨pb, hpb⟩ : ∃ pb, pb = p k := ⟨_, rfl⟩
      rw [← hpb] at c0 c1 c2 hrun hen
      clear hpb
      go_wp2_with (first
        | (go_at_call 25; refine (good_any k _).mono ?_; rintro e w1 ⟨rfl, hw1⟩; obtain rfl := hw1.symm; rw [hg])
        | (at_lookup; refine wp_look1 rfl rfl kInt uInts zInt MC2.out rfl (k := d.1) rfl HGC.out ?_)
        | (at_mapUpdate; refine wp_upd rfl rfl kInt uInts MC2.out rfl (k := d.1) rfl (u := .int .i64 (cg + 1)) rfl ?_; intro w3 mc3 f3 z3; go_frame)
        | fail)
      rw [← HCG.out, cm_inc, ← HS.out] at mc3
      have rg3 := RG2.out.fr f3 (fun e => by have := H.out.md.lt; have := HBC.out; omega) (fun e => by omega)
      exact ⟨⟨_, _, rg3, mc3, F02.out.then f3 (fun i hi e => by have := HBC.out; omega), by omega⟩, by rw [rg3.left_eq, RG.out.left_eq]; exact filter_lt HK.out⟩

end Go.Proofs.Qxb6500451a
