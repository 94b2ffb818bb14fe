/- The real store's representation; New, Len, InGroup, Revs, goodId, Reset, Get, Del. -/
import Derived.Test.Qxb6500450aGreatStore
namespace Go.Proofs.Qxb6500450aGreat
open Go Go.RowKit
set_option maxRecDepth 100000
set_option maxHeartbeats 800000
set_option linter.unusedSimpArgs false
set_option linter.unusedVariables false

structure DocAt (w : World) (b : Nat) (k : Int) (d : Int × ByteArray) : Prop where
  c0 : At w b 0 (.int .i64 k)
  c1 : At w b 1 (.int .i64 d.1)
  c2 : At w b 2 (.string d.2)

theorem DocAt.fr {w w' : World} {b : Nat} {k : Int} {d : Int × ByteArray} (h : DocAt w b k d) {S : Nat → Prop} (hf : Fr S w w') (hn : ¬ S b) : DocAt w' b k d :=
  ⟨h.c0.fr hf hn, h.c1.fr hf hn, h.c2.fr hf hn⟩

def dm (p : Int → Nat) (f : DocF) (k : Int) : Option Value := (f k).map fun _ => .pointer (some ⟨p k, 0, none⟩)

/-- The store lies in the blocks bS (its fields), bd, br, bg (its maps) and p k (its documents): all in F. -/
structure SC (w : World) (F : Nat → Prop) (bS : Nat) (f : DocF) (r : Int → Nat) (bd br bg : Nat) (p : Int → Nat) (n m q : Nat) : Prop where
  s0 : At w bS 0 (.map (some bd))
  s1 : At w bS 1 (.map (some br))
  s2 : At w bS 2 (.map (some bg))
  md : MapF ik w bd (dm p f) n
  mr : MapF ik w br (cm r) m
  mg : MapF ik w bg (cm (cnt f)) q
  ne1 : bd ≠ br
  ne2 : bd ≠ bg
  ne3 : br ≠ bg
  docs : ∀ k d, f k = some d → DocAt w (p k) k d
  inj : ∀ j k, (f j).isSome = true → (f k).isSome = true → p j = p k → j = k
  pne : ∀ k, (f k).isSome = true → p k ≠ bS
  pF : ∀ k, (f k).isSome = true → F (p k)
  fS : F bS
  fd : F bd
  fr : F br
  fg : F bg
  ok : OkF f
  rlo : ∀ k, (f k).isSome = true → 1 ≤ r k
  rrg : ∀ k, 1 ≤ r k → 1 ≤ k ∧ k ≤ 9

def SR (w : World) (F : Nat → Prop) (bS : Nat) (f : DocF) (r : Int → Nat) : Prop := ∃ bd br bg p n m q, SC w F bS f r bd br bg p n m q

theorem SC.frw {w w' : World} {F : Nat → Prop} {bS : Nat} {f : DocF} {r : Int → Nat} {bd br bg n m q : Nat} {p : Int → Nat} (h : SC w F bS f r bd br bg p n m q) {S : Nat → Prop} (hf : Fr S w w') (hn : ∀ i, F i → ¬ S i) : SC w' F bS f r bd br bg p n m q :=
  { h with s0 := h.s0.fr hf (hn _ h.fS), s1 := h.s1.fr hf (hn _ h.fS), s2 := h.s2.fr hf (hn _ h.fS), md := h.md.fr hf (hn _ h.fd), mr := h.mr.fr hf (hn _ h.fr), mg := h.mg.fr hf (hn _ h.fg),
           docs := fun k d hd => (h.docs k d hd).fr hf (hn _ (h.pF k (by rw [hd]; rfl))) }

theorem SR.frw {w w' : World} {F : Nat → Prop} {bS : Nat} {f : DocF} {r : Int → Nat} (h : SR w F bS f r) {S : Nat → Prop} (hf : Fr S w w') (hn : ∀ i, F i → ¬ S i) : SR w' F bS f r := by
  obtain ⟨bd, br, bg, p, n, m, q, h⟩ := h
  exact ⟨bd, br, bg, p, n, m, q, h.frw hf hn⟩

theorem SR.ok {w : World} {F : Nat → Prop} {bS : Nat} {f : DocF} {r : Int → Nat} (h : SR w F bS f r) : OkF f := by
  obtain ⟨bd, br, bg, p, n, m, q, h⟩ := h
  exact h.ok

theorem SR.lt {w : World} {F : Nat → Prop} {bS : Nat} {f : DocF} {r : Int → Nat} (h : SR w F bS f r) : bS < w.heap.size := by
  obtain ⟨bd, br, bg, p, n, m, q, h⟩ := h
  exact h.s0.lt

/-- A list with no twins that lies in another is no longer. -/
theorem nodup_len : ∀ {l m : List Int}, l.Nodup → (∀ x ∈ l, x ∈ m) → l.length ≤ m.length
  | [], _, _, _ => by simp
  | a :: l, m, hn, h => by
    obtain ⟨h1, h2⟩ := List.nodup_cons.1 hn
    have ha := h a (by simp)
    have := nodup_len (l := l) (m := m.erase a) h2 (fun x hx => (List.mem_erase_of_ne (fun e => h1 (by rw [← e]; exact hx))).2 (h x (by simp [hx])))
    rw [List.length_erase_of_mem ha] at this
    have : 0 < m.length := List.length_pos_of_mem ha
    simp; omega

theorem ids_mem {f : DocF} (h : OkF f) (k : Int) : k ∈ ids f ↔ (f k).isSome = true := by
  unfold ids
  rw [List.mem_filter]
  refine ⟨fun h' => h'.2, fun h' => ⟨?_, h'⟩⟩
  obtain e | ⟨d, e⟩ := opt (f k)
  · rw [e] at h'; cases h'
  · exact mem_nine (h.rng k d e).1 (h.rng k d e).2.1

theorem ids_nodup (f : DocF) : (ids f).Nodup := nine_nodup.filter _

theorem keys_len {f : DocF} (h : OkF f) {l : List Int} (hn : l.Nodup) (hm : ∀ k, k ∈ l ↔ (f k).isSome = true) : l.length = nDocs f := by
  rw [← ids_len]
  exact Nat.le_antisymm (nodup_len hn (fun x hx => (ids_mem h x).2 ((hm x).1 hx))) (nodup_len (ids_nodup f) (fun x hx => (hm x).2 ((ids_mem h x).1 hx)))

theorem MapF.count {w : World} {b n : Nat} {p : Int → Nat} {f : DocF} (h : MapF ik w b (dm p f) n) (ho : OkF f) : n = nDocs f := by
  obtain ⟨l, c, h1, h2, h3, h4⟩ := h
  rw [← h4, ← keys_len ho h2.keys (fun k => ?_), List.length_map]
  have e : (dm p f k).isSome = (f k).isSome := by simp [dm]
  rw [← e, ← h3]
  constructor
  · intro hk
    obtain ⟨x, hx, rfl⟩ := List.mem_map.1 hk
    rw [look_of_mem h2.keys hx]; rfl
  · intro hk
    obtain e | ⟨d, e⟩ := opt (look l k)
    · rw [e] at hk; cases hk
    · obtain ⟨x, hx, rfl, _⟩ := look_mem e
      exact List.mem_map_of_mem hx

def goodB (id : Int) : Bool := decide (1 ≤ id) && decide (id ≤ 9)

theorem good_any (id : Int) (w : World) : Calls Tryz.prog 100 #[.int .i64 id] w fun e w' => e = .returned (.bool (goodB id)) ∧ w' = w := by
  go_enter Tryz.func100, Tryz.ntmps100
  by_cases h1 : 1 ≤ id
  · by_cases h2 : id ≤ 9
    · have e : goodB id = true := by simp [goodB, h1, h2]
      go_wp2_with fail
      go_ret
      first | exact ⟨rfl, rfl⟩ | (rw [e]; exact ⟨rfl, rfl⟩)
    · have e : goodB id = false := by simp [goodB, h1]; omega
      go_wp2_with fail
      go_ret
      first | exact ⟨rfl, rfl⟩ | (rw [e]; exact ⟨rfl, rfl⟩)
  · have e : goodB id = false := by simp [goodB]; omega
    go_wp2_with fail
    go_ret
    first | exact ⟨rfl, rfl⟩ | (rw [e]; exact ⟨rfl, rfl⟩)

theorem len_any {w : World} {F : Nat → Prop} {bS : Nat} {f : DocF} {r : Int → Nat} (h : SR w F bS f r) :
    Calls Tryz.prog 86 #[.pointer (some ⟨bS, 0, none⟩)] w fun e w' => e = .returned (.int .i64 (nDocs f : Int)) ∧ w' = w := by
  obtain ⟨bd, br, bg, p, n, m, q, h⟩ := h
  have e := h.md.count h.ok
  subst e
  have H := hid h
  have s0 := h.s0.c
  clear h
  go_enter Tryz.func86, Tryz.ntmps86
  go_wp2_with (first | (at_len; refine wp_len rfl rfl uDocs H.out.md rfl ?_) | go_in)
  go_ret
  exact ⟨rfl, rfl⟩

theorem cm_no : (fun _ => none) = cm (cnt noD) := by funext k; simp [cm, cnt_no]
theorem dm_no (p : Int → Nat) : (fun _ => none) = dm p noD := by funext k; rfl

theorem reset_any {w : World} {F : Nat → Prop} {bS : Nat} {f : DocF} {r : Int → Nat} (h : SR w F bS f r) :
    Calls Tryz.prog 87 #[.pointer (some ⟨bS, 0, none⟩)] w fun e w' => e = .returned (.int .i64 (nDocs f : Int)) ∧ SR w' F bS noD r ∧ Fr F w w' := by
  obtain ⟨bd, br, bg, p, n, m, q, h⟩ := h
  have e := h.md.count h.ok
  subst e
  have H := hid h
  have hd := h.md.ne_at h.s0
  have hg := h.mg.ne_at h.s0
  have s0 := h.s0.c
  have N2 := hid h.ne2
  have N3 := hid h.ne3
  clear h
  go_enter Tryz.func87, Tryz.ntmps87
  go_wp2_with (first
    | (at_len; refine wp_len rfl rfl uDocs H.out.md rfl ?_)
    | (refine wp_clear rfl rfl uDocs H.out.md rfl ?_; intro w1 md1 f1 z1; have s2 := (H.out.s2.fr f1 (fun e => hd e.symm)).c; have mg1 := H.out.mg.fr f1 (fun e => N2.out e.symm))
    | (refine wp_clear rfl rfl uInts mg1 rfl ?_; intro w2 mg2 f2 z2)
    | go_in)
  go_ret
  have f12 : Fr F w w2 := (f1.mono (S' := F) (fun i _ e => e ▸ H.out.fd)).then (f2.mono (S' := F) (fun i _ e => e ▸ H.out.fg)) (fun _ _ h => h)
  have g : ∀ {o v}, At w bS o v → At w2 bS o v := fun h => (h.fr f1 (fun e => hd e.symm)).fr f2 (fun e => hg e.symm)
  rw [cm_no] at mg2
  rw [dm_no p] at md1
  refine ⟨rfl, ⟨bd, br, bg, p, _, m, _, ⟨g H.out.s0, g H.out.s1, g H.out.s2, md1.fr f2 (fun e => N2.out e), (H.out.mr.fr f1 (fun e => H.out.ne1 e.symm)).fr f2 (fun e => N3.out e), mg2, H.out.ne1, H.out.ne2, H.out.ne3, fun k d hd => by simp [noD] at hd, fun j k hj => by simp [noD] at hj, fun k hk => by simp [noD] at hk, fun k hk => by simp [noD] at hk, H.out.fS, H.out.fd, H.out.fr, H.out.fg, OkF.no, fun k hk => by simp [noD] at hk, H.out.rrg⟩⟩, f12⟩

end Go.Proofs.Qxb6500450aGreat
