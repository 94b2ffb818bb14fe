/- DropGroup. -/
import Derived.Test.Qxb6500450aGreatOwn
namespace Go.Proofs.Qxb6500450aGreat
open Go Go.RowKit
set_option maxRecDepth 100000
set_option maxHeartbeats 800000
set_option linter.unusedSimpArgs false
set_option linter.unusedVariables false

/-- The documents while group g is being dropped: 'left' are still to come. -/
def partD (f : DocF) (g : Int) (left : List Int) : DocF := fun j => if has f g j = true ∧ j ∉ left then none else f j

theorem partD_nil (f : DocF) (g : Int) : partD f g [] = dropD f g := by
  funext j; simp [partD, dropD]

theorem partD_start {f : DocF} {g : Int} {left : List Int} (h : ∀ k, k ∈ left ↔ (f k).isSome = true) : partD f g left = f := by
  funext j
  unfold partD
  split
  · rename_i hj
    obtain ⟨h1, h2⟩ := hj
    obtain e | ⟨d, e⟩ := opt (f j)
    · exact e.symm
    · exact absurd ((h j).2 (by rw [e]; rfl)) h2
  · rfl

theorem partD_in {f : DocF} {g k : Int} {left : List Int} (h : k ∈ left) : partD f g left k = f k := by
  unfold partD; rw [if_neg]; exact fun h' => h'.2 h

theorem partD_keep {f : DocF} {g k : Int} {left : List Int} (hk : has f g k = false) : partD f g (left.filter (· ≠ k)) = partD f g left := by
  funext j
  unfold partD
  by_cases e : j = k
  · subst e; simp [hk]
  · simp [e]

theorem partD_drop {f : DocF} {g k : Int} {left : List Int} (hk : has f g k = true) : partD f g (left.filter (· ≠ k)) = delD (partD f g left) k := by
  funext j
  unfold partD delD
  by_cases e : j = k
  · subst e; simp [hk]
  · simp [e]

theorem filter_twice (k : Int) (l : List Int) : (l.filter (· ≠ k)).filter (· ≠ k) = l.filter (· ≠ k) := by
  rw [List.filter_filter]; congr 1; funext x; simp

theorem filter_lt {k : Int} {l : List Int} (h : k ∈ l) : (l.filter (· ≠ k)).length < l.length :=
  List.length_filter_lt_length_iff_exists.2 ⟨k, h, by simp⟩

theorem drop_any {w : World} {F : Nat → Prop} {bS : Nat} {f : DocF} {r : Int → Nat} (h : SR w F bS f r) (g : Int) :
    Calls Tryz.prog 81 #[.pointer (some ⟨bS, 0, none⟩), .int .i64 g] w fun e w' => e = .returned (.int .i64 (cnt f g : Int)) ∧ SR w' F bS (dropD f g) r ∧ Fr F w w' := by
  obtain ⟨bd, br, bg, p, n, m, q, h⟩ := h
  have H := hid h
  have s0 := h.s0.c
  have hdS := h.md.ne_at h.s0
  have hgS := h.mg.ne_at h.s0
  have n1 := hid h.ne1
  have n2 := hid h.ne2
  have n3 := hid h.ne3
  have hbd := h.md.lt
  clear h
  go_enter Tryz.func81, Tryz.ntmps81
  go_wp2_with (first
    | (at_range; refine wp_range rfl rfl uDocs H.out.md rfl ?_; intro w1 left0 rg1 ln1 lm1 f1 z1; go_frame)
    | go_in)
  obtain ⟨rb, hrb⟩ : ∃ rb, rb = w.heap.size := ⟨_, rfl⟩
  rw [← hrb] at rg1 ⊢
  have HRB := hid hrb
  have L1 : Hid (∀ k, k ∈ left0 ↔ (f k).isSome = true) := fun k => by rw [lm1 k]; simp [dm]
  clear hrb ln1 lm1
  go_loopw [5] (fun i wr => ∃ left, Ranges ik wr bd rb (dm p (partD f g left)) left ∧ i = .int .i64 ((nDocs f : Int) - (nDocs (partD f g left) : Int)) ∧ nDocs (partD f g left) ≤ nDocs f ∧ Fr (fun i => i = bd) w wr) (fun _ wr => wr.rangeLeft bd rb)
  case atStart =>
    refine ⟨left0, ?_, ?_, ?_, f1.mono (fun _ _ h => h.elim)⟩
    · rw [partD_start L1.out]; exact rg1
    · rw [partD_start L1.out]; simp
    · rw [partD_start L1.out]; exact Nat.le_refl _
  case round =>
    obtain ⟨left, rg, rfl, hle, fr⟩ := hrel
    have RG := hid rg
    have HL := hid hle
    have FR := hid fr
    have hi0 : (0 : Int) ≤ (nDocs f : Int) - (nDocs (partD f g left) : Int) := by omega
    have hi1 : (nDocs f : Int) - (nDocs (partD f g left) : Int) < 10 := by have := nDocs_le f; omega
    generalize hN : (nDocs f : Int) - (nDocs (partD f g left) : Int) = N at *
    have HN := hid hN
    have hrS := rg.ne
    clear fr hN
    rcases rg.next (P := Tryz.prog) 0 with ⟨hnil, hrun⟩ | ⟨k, v, w2, hk, hv, hrun, hen, rg2, f2, z2⟩
    · clear rg
      subst hnil
      have s2 := (H.out.s2.fr FR.out (fun e => hdS e.symm)).c
      go_wp2_with (first
        | (at_delete; refine wp_del rfl rfl kInt uInts (H.out.mg.fr FR.out (fun e => n2.out e.symm)) rfl (k := g) rfl ?_; intro w3 mg3 f3 z3)
        | go_in)
      go_ret
      have e0 : N = (cnt f g : Int) := by rw [← HN.out, partD_nil, nDocs_drop f g]; omega
      rw [e0]
      obtain ⟨n', md'⟩ := RG.out.map
      rw [partD_nil] at md'
      have e1 : updF (cm (cnt f)) g none = cm (cnt (dropD f g)) := by
        funext j
        unfold updF cm
        rw [cnt_drop]
        by_cases e : j = g
        · simp [e]
        · simp [e]
      rw [e1] at mg3
      have gS : ∀ {o v}, At w bS o v → At w3 bS o v := fun h => (h.fr FR.out (fun e => hdS e.symm)).fr f3 (fun e => hgS e.symm)
      have sub : ∀ k, (dropD f g k).isSome = true → (f k).isSome = true := fun k hk => by
        unfold dropD at hk
        split at hk
        · cases hk
        · exact hk
      refine ⟨rfl, ⟨bd, br, bg, p, _, m, _, ⟨gS H.out.s0, gS H.out.s1, gS H.out.s2, md'.fr f3 (fun e => n2.out e), (H.out.mr.fr FR.out (fun e => n1.out e.symm)).fr f3 (fun e => n3.out e), mg3, n1.out, n2.out, n3.out, fun k d hd => ?_, fun j k hj hk => H.out.inj j k (sub j hj) (sub k hk), fun k hk => H.out.pne k (sub k hk), fun k hk => H.out.pF k (sub k hk), H.out.fS, H.out.fd, H.out.fr, H.out.fg, H.out.ok.drop g, fun k hk => H.out.rlo k (sub k hk), H.out.rrg⟩⟩, (FR.out.mono (S' := F) (fun i _ e => e ▸ H.out.fd)).then (f3.mono (S' := F) (fun i _ e => e ▸ H.out.fg)) (fun _ _ h => h)⟩
      have hd' : f k = some d := by
        unfold dropD at hd
        split at hd
        · cases hd
        · exact hd
      have h0 := H.out.docs k d hd'
      exact (h0.fr FR.out (fun e => H.out.md.ne_at h0.c0 e.symm)).fr f3 (fun e => H.out.mg.ne_at h0.c0 e.symm)
    · have hfk : ∃ d, f k = some d ∧ v = .pointer (some ⟨p k, 0, none⟩) := by
        unfold dm at hv
        rw [partD_in hk] at hv
        obtain e | ⟨d, e⟩ := opt (f k)
        · rw [e] at hv; cases hv
        · rw [e] at hv; exact ⟨d, e, by simpa using hv.symm⟩
      obtain ⟨d, hf, rfl⟩ := hfk
      have f02 : Fr (fun i => i = bd) w w2 := FR.out.then (f2.mono (S' := fun i => i = rb) (fun _ _ h => h)) (fun i hi e => absurd hi (by rw [e, HRB.out]; omega))
      have F02 := hid f02
      have h0 := (H.out.docs k d hf).fr f02 (fun e => H.out.md.ne_at (H.out.docs k d hf).c0 e.symm)
      have c1 := h0.c1.c
      have s0 := (H.out.s0.fr f02 (fun e => hdS e.symm)).c
      have RG2 := hid rg2
      have HK := hid hk
      have HG : Hid (has f g k = (d.1 == g)) := by simp [Hid, has, hf]
      have HFk := hid hf
      simp only [ik] at hrun hen
      clear rg rg2 hv hf h0 f02 f2 z2
      clear hk
      obtain ⟨pb, hpb⟩ : ∃ pb, pb = p k := ⟨_, rfl⟩
      rw [← hpb] at c1 hrun hen
      clear hpb
      by_cases hd : d.1 = g
      · have hdb : (d.1 == g) = true := by simp [hd]
        rw [hdb] at HG
        clear hd
        go_wp2_with (first
          | (at_delete; refine wp_delR rfl rfl kInt uDocs RG2.out rfl (k := k) rfl ?_; intro w3 rg3 f3 z3; go_frame)
          | go_in)
        rw [filter_twice, dm_del, ← partD_drop HG.out] at rg3
        have hb := H.out.ok.rng k d HFk.out
        have hnd := nDocs_del (partD f g left) hb.1 hb.2.1
        rw [partD_in HK.out, HFk.out, ← partD_drop HG.out] at hnd
        simp only [Option.isSome_some, Bool.toNat_true] at hnd
        have hN := HN.out
        have hL := HL.out
        refine ⟨⟨left.filter (· ≠ k), rg3, ?_, by omega, F02.out.trans f3⟩, ?_⟩
        · congr 1; omega
        · rw [rg3.left_eq, RG.out.left_eq]; exact filter_lt HK.out
      · have hdb : (d.1 == g) = false := by simp [hd]
        rw [hdb] at HG
        clear hd
        go_wp2_with fail
        refine ⟨⟨left.filter (· ≠ k), ?_, ?_, ?_, F02.out⟩, ?_⟩
        · rw [partD_keep HG.out]; exact RG2.out
        · rw [partD_keep HG.out, HN.out]
        · rw [partD_keep HG.out]; exact HL.out
        · rw [RG2.out.left_eq, RG.out.left_eq]; exact filter_lt HK.out

end Go.Proofs.Qxb6500450aGreat
