/- The model's representation: a row of documents, the revisions, the count of questions. -/
import Derived.Test.Qxb6500450aGreatMPlain
namespace Go.Proofs.Qxb6500450aGreat
open Go Go.RowKit
set_option maxRecDepth 100000
set_option maxHeartbeats 800000
set_option linter.unusedSimpArgs false
set_option linter.unusedVariables false

def cells3 : List D3 → List Value
  | [] => []
  | d :: l => .int .i64 d.1 :: .int .i64 d.2.1 :: .string d.2.2 :: cells3 l

theorem cells3_len : ∀ l : List D3, (cells3 l).length = l.length * 3
  | [] => rfl
  | d :: l => by simp [cells3, cells3_len l]; omega
theorem cells3_append : ∀ l m : List D3, cells3 (l ++ m) = cells3 l ++ cells3 m
  | [], _ => rfl
  | d :: l, m => by simp [cells3, cells3_append l m]
theorem cells3_one : ∀ (l : List D3), ∀ u ∈ cells3 l, u.oneCell' = true
  | [], u, h => by simp [cells3] at h
  | d :: l, u, h => by
    simp only [cells3, List.mem_cons] at h
    rcases h with rfl | rfl | rfl | h
    · rfl
    · rfl
    · rfl
    · exact cells3_one l u h
theorem cells3_get : ∀ (l : List D3) (j : Nat) (hj : j < l.length), (cells3 l)[j * 3]? = some (.int .i64 l[j].1) ∧ (cells3 l)[j * 3 + 1]? = some (.int .i64 l[j].2.1) ∧ (cells3 l)[j * 3 + 2]? = some (.string l[j].2.2)
  | [], j, hj => by simp at hj
  | d :: l, 0, _ => ⟨rfl, rfl, rfl⟩
  | d :: l, j + 1, hj => by
    have h := cells3_get l j (by simpa using hj)
    have e : (j + 1) * 3 = j * 3 + 1 + 1 + 1 := by omega
    simp only [cells3, e, List.getElem?_cons_succ, List.getElem_cons_succ]
    exact h

def OwnD (w : World) (base : Nat) (v : Value) (l : List D3) : Prop := w.ownsRow base 112 3 v l.length (cells3 l)

theorem OwnD.nil (w : World) (base : Nat) : OwnD w base (.slice none 0 0) [] := World.ownsRow_nil w base _ _
theorem OwnD.fr {w w' : World} {base : Nat} {v : Value} {l : List D3} (h : OwnD w base v l) {S : Nat → Prop} (hf : Fr S w w') (hn : ∀ k, v.ownBlock = some k → ¬ S k) : OwnD w' base v l := ownsRow_fr h hf hn
theorem OwnD.lt {w : World} {base : Nat} {v : Value} {l : List D3} (h : OwnD w base v l) {k : Nat} (hk : v.ownBlock = some k) : base ≤ k ∧ k < w.heap.size := World.ownsRow.lt h k hk
theorem OwnD.empty {w : World} {base : Nat} {v : Value} {l : List D3} (h : OwnD w base v l) : (v = .slice none 0 0 ∧ l = []) ∨ ∃ g cap, v = .slice (some ⟨g, 0, none⟩) l.length cap ∧ base ≤ g ∧ g < w.heap.size := by
  rcases h.2 with ⟨h1, h2⟩ | ⟨g, cap, cur, h1, h2, h3, _⟩
  · exact .inl ⟨h1, List.eq_nil_of_length_eq_zero h2⟩
  · exact .inr ⟨g, cap, h1, h2, (Array.getElem?_eq_some_iff.1 h3).1⟩
theorem OwnD.slice {w : World} {base : Nat} {v : Value} {l : List D3} (h : OwnD w base v l) : ∃ a cap, v = .slice a l.length cap ∧ (l ≠ [] → ∃ g, a = some ⟨g, 0, none⟩ ∧ base ≤ g ∧ g < w.heap.size) := by
  rcases h.empty with ⟨rfl, rfl⟩ | ⟨g, cap, rfl, hb, hg⟩
  · exact ⟨none, 0, rfl, fun h => absurd rfl h⟩
  · exact ⟨_, cap, rfl, fun _ => ⟨g, rfl, hb, hg⟩⟩

theorem OwnD.cell {w : World} {base g cap n : Nat} {l : List D3} (h : OwnD w base (.slice (some ⟨g, 0, none⟩) n cap) l) (hn : n = l.length) {j : Nat} (hj : j < l.length) :
    At w g (j * 3) (.int .i64 l[j].1) ∧ At w g (j * 3 + 1) (.int .i64 l[j].2.1) ∧ At w g (j * 3 + 2) (.string l[j].2.2) := by
  subst hn
  obtain ⟨h0, h1, h2⟩ := cells3_get l j hj
  refine ⟨⟨?_, World.ownsRow.frozenAt h _⟩, ⟨?_, World.ownsRow.frozenAt h _⟩, ⟨?_, World.ownsRow.frozenAt h _⟩⟩
  · rw [World.ownsRow.cellAt h _ (by omega)]; exact h0
  · rw [World.ownsRow.cellAt h _ (by omega)]; exact h1
  · rw [World.ownsRow.cellAt h _ (by omega)]; exact h2

/-- The model lies in the blocks bM and that of its row: all in G. -/
structure MR (w : World) (G : Nat → Prop) (bM : Nat) (f : DocF) (r : Int → Nat) : Prop where
  row : ∃ v, At w bM 0 v ∧ OwnD w 0 v (lst f) ∧ (∀ k, v.ownBlock = some k → G k ∧ k ≠ bM)
  rev : ∀ i : Nat, i < 10 → At w bM (1 + i) (.int .i64 (r (i : Int) : Int))
  ask : ∃ x : Int, At w bM 11 (.int .i64 x)
  gM : G bM
  ok : OkF f
  rrg : ∀ k, 1 ≤ r k → 1 ≤ k ∧ k ≤ 9

theorem MR.frw {w w' : World} {G : Nat → Prop} {bM : Nat} {f : DocF} {r : Int → Nat} (h : MR w G bM f r) {S : Nat → Prop} (hf : Fr S w w') (hn : ∀ i, G i → ¬ S i) : MR w' G bM f r := by
  obtain ⟨v, h1, h2, h3⟩ := h.row
  obtain ⟨x, h4⟩ := h.ask
  exact ⟨⟨v, h1.fr hf (hn _ h.gM), h2.fr hf (fun k hk => hn _ (h3 k hk).1), h3⟩, fun i hi => (h.rev i hi).fr hf (hn _ h.gM), ⟨x, h4.fr hf (hn _ h.gM)⟩, h.gM, h.ok, h.rrg⟩

theorem MR.wide {w : World} {G G' : Nat → Prop} {bM : Nat} {f : DocF} {r : Int → Nat} (h : MR w G bM f r) (hn : ∀ i, G i → G' i) : MR w G' bM f r := by
  obtain ⟨v, h1, h2, h3⟩ := h.row
  exact ⟨⟨v, h1, h2, fun k hk => ⟨hn _ (h3 k hk).1, (h3 k hk).2⟩⟩, h.rev, h.ask, hn _ h.gM, h.ok, h.rrg⟩

theorem MR.bound {w : World} {G : Nat → Prop} {bM : Nat} {f : DocF} {r : Int → Nat} (h : MR w G bM f r) : MR w (fun i => G i ∧ i < w.heap.size) bM f r := by
  obtain ⟨v, h1, h2, h3⟩ := h.row
  exact ⟨⟨v, h1, h2, fun k hk => ⟨⟨(h3 k hk).1, (h2.lt hk).2⟩, (h3 k hk).2⟩⟩, h.rev, h.ask, ⟨h.gM, h1.lt⟩, h.ok, h.rrg⟩

theorem MR.lt {w : World} {G : Nat → Prop} {bM : Nat} {f : DocF} {r : Int → Nat} (h : MR w G bM f r) : bM < w.heap.size := by
  obtain ⟨v, h1, _⟩ := h.row
  exact h1.lt

/-- One question more. -/
theorem MR.asked {w : World} {G : Nat → Prop} {bM : Nat} {f : DocF} {r : Int → Nat} (h : MR w G bM f r) (y : Int) : MR (w.setCell ⟨bM, 11, none⟩ (.int .i64 y)) G bM f r := by
  obtain ⟨v, h1, h2, h3⟩ := h.row
  obtain ⟨x, h4⟩ := h.ask
  exact ⟨⟨v, h1.other (by omega) _, h2.fr ((Fr.refl (fun i => i = bM) _).setCell (p := ⟨bM, 11, none⟩) (fun _ => rfl) _) (fun k hk e => (h3 k hk).2 e), h3⟩, fun i hi => (h.rev i hi).other (by omega) _, ⟨y, h4.same _⟩, h.gM, h.ok, h.rrg⟩

theorem mnew_any (w : World) : Calls Tryz.prog 45 #[] w fun e w' => e = .returned (.pointer (some ⟨w.heap.size, 0, none⟩)) ∧ MR w' (fun i => i = w.heap.size) w.heap.size noD (fun _ => 0) ∧ Fr (fun _ => False) w w' := by
  go_enter Tryz.func45, Tryz.ntmps45
  go_wp2_with fail
  go_ret
  have g : ∀ {o v}, (#[.slice none 0 0, .int .i64 0, .int .i64 0, .int .i64 0, .int .i64 0, .int .i64 0, .int .i64 0, .int .i64 0, .int .i64 0, .int .i64 0, .int .i64 0, .int .i64 0] : Array Value)[o]? = some v → At (w.alloc (.cells #[.slice none 0 0, .int .i64 0, .int .i64 0, .int .i64 0, .int .i64 0, .int .i64 0, .int .i64 0, .int .i64 0, .int .i64 0, .int .i64 0, .int .i64 0, .int .i64 0] 110)) w.heap.size o v := fun h => At.new w _ _ h
  refine ⟨rfl, ⟨⟨_, g rfl, by rw [lst_no]; exact OwnD.nil _ _, fun k hk => by simp [Value.ownBlock] at hk⟩, fun i hi => ?_, ⟨0, g rfl⟩, rfl, OkF.no, fun k hk => absurd hk (by simp)⟩, (Fr.refl _ _).alloc _⟩
  have : i = 0 ∨ i = 1 ∨ i = 2 ∨ i = 3 ∨ i = 4 ∨ i = 5 ∨ i = 6 ∨ i = 7 ∨ i = 8 ∨ i = 9 := by omega
  rcases this with rfl | rfl | rfl | rfl | rfl | rfl | rfl | rfl | rfl | rfl <;> exact g rfl

theorem mlen_any {w : World} {G : Nat → Prop} {bM : Nat} {f : DocF} {r : Int → Nat} (h : MR w G bM f r) :
    Calls Tryz.prog 96 #[.pointer (some ⟨bM, 0, none⟩)] w fun e w' => e = .returned (.int .i64 (nDocs f : Int)) ∧ MR w' G bM f r ∧ Fr (fun i => i = bM) w w' := by
  have H := hid h
  obtain ⟨v, h1, h2, h3⟩ := h.row
  obtain ⟨x, h4⟩ := h.ask
  obtain ⟨a, cap, rfl, _⟩ := h2.slice
  rw [lst_len] at h1
  have c0 := h1.c
  have c1 := h4.c
  have x1 := h4.f
  clear h h1 h2 h3 h4
  go_enter Tryz.func96, Tryz.ntmps96
  go_wp2_with fail
  go_ret
  exact ⟨rfl, H.out.asked _, (Fr.refl (fun i => i = bM) w).setCell (p := ⟨bM, 11, none⟩) (fun _ => rfl) _⟩

theorem MR.setRow {w : World} {G G' : Nat → Prop} {bM : Nat} {f f' : DocF} {r : Int → Nat} (h : MR w G bM f r) {v : Value} (hv : OwnD w 0 v (lst f')) (hk : ∀ k, v.ownBlock = some k → G' k ∧ k ≠ bM) (hG : G' bM) (ho : OkF f') : MR (w.setCell ⟨bM, 0, none⟩ v) G' bM f' r := by
  obtain ⟨v0, h1, h2, h3⟩ := h.row
  obtain ⟨x, h4⟩ := h.ask
  exact ⟨⟨v, h1.same _, hv.fr ((Fr.refl (fun i => i = bM) w).setCell (p := ⟨bM, 0, none⟩) (fun _ => rfl) _) (fun k hk' e => (hk k hk').2 e), hk⟩, fun i hi => (h.rev i hi).other (by omega) _, ⟨x, h4.other (by omega) _⟩, hG, ho, h.rrg⟩

theorem mreset_any {w : World} {G : Nat → Prop} {bM : Nat} {f : DocF} {r : Int → Nat} (h : MR w G bM f r) :
    Calls Tryz.prog 97 #[.pointer (some ⟨bM, 0, none⟩)] w fun e w' => e = .returned (.int .i64 (nDocs f : Int)) ∧ MR w' G bM noD r ∧ Fr (fun i => i = bM) w w' := by
  have H := hid h
  obtain ⟨v, h1, h2, h3⟩ := h.row
  obtain ⟨a, cap, rfl, _⟩ := h2.slice
  rw [lst_len] at h1
  have c0 := h1.c
  have x0 := h1.f
  clear h h1 h2 h3
  go_enter Tryz.func97, Tryz.ntmps97
  go_wp2_with fail
  go_ret
  exact ⟨rfl, H.out.setRow (by rw [lst_no]; exact OwnD.nil _ _) (fun k hk => by simp [Value.ownBlock] at hk) H.out.gM OkF.no, (Fr.refl (fun i => i = bM) w).setCell (p := ⟨bM, 0, none⟩) (fun _ => rfl) _⟩

end Go.Proofs.Qxb6500450aGreat
