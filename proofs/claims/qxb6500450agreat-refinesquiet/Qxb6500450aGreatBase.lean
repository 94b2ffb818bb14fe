/- Frames and cells: small laws of our own on worlds, for the walks of this seat. -/
import Derived.WalkKit
import Derived.WalkSpells
import Derived.WalkLawsBesides
import Derived.Deep.QuietTactic
import Derived.BigQuiet
import Derived.BigRegion
import Derived.Deep.DeepCutAuto
import Derived.KernelRfl
import Derived.Laws.IdiomStrings
import Derived.Deep.RegionWith
import Derived.Deep.DrawnRows
import Derived.Deep.AppendLies
namespace Go.Proofs.Qxb6500450aGreat
open Go Go.RowKit

/-- w' is w but for the blocks in S and for new blocks. -/
structure Fr (S : Nat → Prop) (w w' : World) : Prop where
  os : w'.os = w.os
  tape : w'.tape = w.tape
  output : w'.output = w.output
  size : w.heap.size ≤ w'.heap.size
  block : ∀ k, k < w.heap.size → ¬ S k → w'.heap[k]? = w.heap[k]?

theorem Fr.refl (S : Nat → Prop) (w : World) : Fr S w w := ⟨rfl, rfl, rfl, Nat.le_refl _, fun _ _ _ => rfl⟩

theorem Fr.trans {S : Nat → Prop} {a b c : World} (h : Fr S a b) (k : Fr S b c) : Fr S a c :=
  ⟨k.os.trans h.os, k.tape.trans h.tape, k.output.trans h.output, Nat.le_trans h.size k.size,
    fun i hi hs => (k.block i (Nat.lt_of_lt_of_le hi h.size) hs).trans (h.block i hi hs)⟩

/-- The second step may touch whatever lies in S or is new. -/
theorem Fr.then {S S' : Nat → Prop} {a b c : World} (h : Fr S a b) (k : Fr S' b c) (hs : ∀ i, i < a.heap.size → S' i → S i) : Fr S a c :=
  ⟨k.os.trans h.os, k.tape.trans h.tape, k.output.trans h.output, Nat.le_trans h.size k.size,
    fun i hi hS => (k.block i (Nat.lt_of_lt_of_le hi h.size) (fun h' => hS (hs i hi h'))).trans (h.block i hi hS)⟩

theorem Fr.mono {S S' : Nat → Prop} {a b : World} (h : Fr S a b) (hs : ∀ i, i < a.heap.size → S i → S' i) : Fr S' a b :=
  ⟨h.os, h.tape, h.output, h.size, fun i hi hS => h.block i hi (fun h' => hS (hs i hi h'))⟩

theorem Fr.drew {S : Nat → Prop} {a w : World} (h : Fr S a w) : Fr S a w.drew := ⟨h.os, h.tape, h.output, h.size, h.block⟩
theorem Fr.drewN {S : Nat → Prop} {a w : World} (h : Fr S a w) (n : Nat) : Fr S a (w.drewN n) := ⟨h.os, h.tape, h.output, h.size, h.block⟩

theorem Fr.alloc {S : Nat → Prop} {a w : World} (h : Fr S a w) (o : Obj) : Fr S a (w.alloc o) :=
  h.trans ⟨rfl, rfl, rfl, by simp, fun _ hk _ => Below.heap_alloc _ _ _ hk⟩

theorem Fr.setCell {S : Nat → Prop} {a w : World} (h : Fr S a w) {p : Addr} (hp : p.block < a.heap.size → S p.block) (u : Value) : Fr S a (w.setCell p u) :=
  ⟨h.os, h.tape, h.output, by simpa using h.size, fun k hk hs => by
    rw [Below.heap_setCell _ _ _ _ (fun e => hs (by rw [e]; exact hp (e ▸ hk)))]; exact h.block k hk hs⟩

theorem Fr.grown {S : Nat → Prop} {a w w' : World} {row : Option Nat} (h : Fr S a w) (hg : w.grownBy w' row) (hr : ∀ k, row = some k → k < a.heap.size → S k) : Fr S a w' :=
  ⟨hg.os.trans h.os, hg.tape.trans h.tape, hg.output.trans h.output, Nat.le_trans h.size hg.size, fun k hk hs => by
    rw [hg.block k (Nat.lt_of_lt_of_le hk h.size) (fun e => hs (hr k e.symm hk))]; exact h.block k hk hs⟩

theorem Fr.below {w w' : World} (h : Fr (fun _ => False) w w') : Below w.heap.size w w' :=
  ⟨h.os, h.tape, h.output, h.size, fun k hk => h.block k hk (fun f => f)⟩

theorem Fr.cell {S : Nat → Prop} {w w' : World} (h : Fr S w w') {p : Addr} (hp : p.block < w.heap.size) (hs : ¬ S p.block) : w'.cell? p = w.cell? p :=
  World.cell?_of_block (w := w) (h.block p.block hp hs)

theorem Fr.frozen {S : Nat → Prop} {w w' : World} (h : Fr S w w') {p : Addr} (hp : p.block < w.heap.size) (hs : ¬ S p.block) : w'.frozen? p = w.frozen? p :=
  World.frozen?_of_block (w := w) (h.block p.block hp hs)

/-- Cell o of block b holds v and may be written. -/
structure At (w : World) (b o : Nat) (v : Value) : Prop where
  c : w.cell? ⟨b, o, none⟩ = some v
  f : w.frozen? ⟨b, o, none⟩ = false

theorem At.lt {w : World} {b o : Nat} {v : Value} (h : At w b o v) : b < w.heap.size := World.block_lt_of_cell? (a := ⟨b, o, none⟩) w h.c

theorem At.same {w : World} {b o : Nat} {v : Value} (h : At w b o v) (x : Value) : At (w.setCell ⟨b, o, none⟩ x) b o x :=
  ⟨World.cell?_setCell_same _ _ _ h.c, by simpa using h.f⟩

theorem At.other {w : World} {b o : Nat} {v : Value} (h : At w b o v) {b' o' : Nat} (hne : b' = b → o' = o → False) (x : Value) : At (w.setCell ⟨b', o', none⟩ x) b o v :=
  ⟨by rw [World.cell?_setCell_other _ _ _ _ (fun e => by simp only [Addr.mk.injEq] at e; exact hne e.1 e.2.1)]; exact h.c, by simpa using h.f⟩

theorem At.alloc {w : World} {b o : Nat} {v : Value} (h : At w b o v) (ob : Obj) : At (w.alloc ob) b o v :=
  ⟨by rw [World.cell?_alloc_lt _ _ _ h.lt]; exact h.c, by rw [World.frozen?_alloc_old _ _ _ (Nat.ne_of_lt h.lt)]; exact h.f⟩

theorem At.drew {w : World} {b o : Nat} {v : Value} (h : At w b o v) : At w.drew b o v := ⟨h.c, h.f⟩
theorem At.drewN {w : World} {b o : Nat} {v : Value} (h : At w b o v) (n : Nat) : At (w.drewN n) b o v := ⟨h.c, h.f⟩

theorem At.fr {w w' : World} {b o : Nat} {v : Value} (h : At w b o v) {S : Nat → Prop} (hf : Fr S w w') (hs : ¬ S b) : At w' b o v :=
  ⟨by rw [hf.cell (p := ⟨b, o, none⟩) h.lt hs]; exact h.c, by rw [hf.frozen (p := ⟨b, o, none⟩) h.lt hs]; exact h.f⟩

theorem At.new (w : World) (c : Array Value) (t : TypeId) {o : Nat} {v : Value} (h : c[o]? = some v) : At (w.alloc (.cells c t)) w.heap.size o v :=
  ⟨by rw [World.cell?_alloc_new]; exact h, by simp⟩

theorem At.val {w : World} {b o : Nat} {v v' : Value} (h : At w b o v) (e : v = v') : At w b o v' := e ▸ h

/-- A fact kept from the walk. -/
theorem hid {p : Prop} (h : p) : Hid p := h

theorem add_addr (b o j : Nat) : (⟨b, o, none⟩ : Addr).add j = ⟨b, o + j, none⟩ := by
  unfold Addr.add; split
  · rename_i h; subst h; rfl
  · rfl

theorem fr_of_eq (S : Nat → Prop) {a b : World} (h : b = a) : Fr S a b := h ▸ Fr.refl S b

theorem Fr.setN {S : Nat → Prop} {a w : World} (h : Fr S a w) {b : Nat} (hb : a.heap.size ≤ b) (o : Nat) (x : Value) : Fr S a (w.setCell ⟨b, o, none⟩ x) :=
  h.setCell (fun h' => absurd h' (by simp only; omega)) x

/-- A cell is there and may be written. -/
def Has (w : World) (b o : Nat) : Prop := ∃ v, At w b o v
theorem At.has {w : World} {b o : Nat} {v : Value} (h : At w b o v) : Has w b o := ⟨v, h⟩
theorem Has.set {w : World} {b o : Nat} (h : Has w b o) (b' o' : Nat) (x : Value) : Has (w.setCell ⟨b', o', none⟩ x) b o := by
  obtain ⟨v, h⟩ := h
  by_cases e : b' = b ∧ o' = o
  · obtain ⟨rfl, rfl⟩ := e
    exact ⟨x, h.same x⟩
  · exact ⟨v, h.other (fun e1 e2 => e ⟨e1, e2⟩) x⟩

/-- Bytes as a Go string. -/
def bs (l : List UInt8) : ByteArray := ⟨l.toArray⟩
theorem bs_append (a b : List UInt8) : bs a ++ bs b = bs (a ++ b) := by
  apply ByteArray.ext
  simp [bs]
theorem bs_size (l : List UInt8) : (bs l).size = l.length := by simp [bs, ByteArray.size]
theorem bs_eta (s : ByteArray) : bs s.data.toList = s := by apply ByteArray.ext; simp [bs]
def dig (k : Nat) : UInt8 := UInt8.ofNat (48 + k)
theorem dig_toNat (n : Nat) (hn : n < 10) : ((dig n).toNat : Int) = 48 + (n : Int) := by
  simp [dig]; omega

end Go.Proofs.Qxb6500450aGreat
