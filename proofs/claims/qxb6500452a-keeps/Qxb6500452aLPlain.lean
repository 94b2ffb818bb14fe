/- The lock table as plain mathematics: no Go here. -/
namespace Go.Proofs.Qxb6500452a.L

def bs (l : List UInt8) : ByteArray := ⟨l.toArray⟩

theorem bs_append (a b : List UInt8) : bs a ++ bs b = bs (a ++ b) := by
  apply ByteArray.ext
  simp [bs]

structure St where
  op : Nat → Bool
  gen : Nat → Nat
  tr : List UInt8

def init : St := ⟨fun _ => false, fun _ => 0, []⟩

def updB (f : Nat → Bool) (k : Nat) (v : Bool) : Nat → Bool := fun j => if j = k then v else f j
def updN (f : Nat → Nat) (k : Nat) (v : Nat) : Nat → Nat := fun j => if j = k then v else f j

def dig (k : Nat) : UInt8 := UInt8.ofNat (48 + k)

/-- The trace gains an event, unless it is full. -/
def noteL (tr : List UInt8) (c : UInt8) (k : Nat) : List UInt8 := if tr.length < 24 then tr ++ [c, dig k] else tr

def St.hdl (s : St) (k : Nat) : Int := if s.op k = true then (k : Int) + 4 * (s.gen k : Int) else -1

def b1 (b : Bool) : Nat := if b = true then 1 else 0
def St.cnt (s : St) : Nat := b1 (s.op 0) + b1 (s.op 1) + b1 (s.op 2) + b1 (s.op 3)

structure St.Ok (s : St) : Prop where
  gen : ∀ k, k < 4 → s.gen k < 4
  len : s.tr.length ≤ 24
  even : s.tr.length % 2 = 0

def take (s : St) (k : Nat) : St := ⟨updB s.op k true, s.gen, noteL s.tr 65 k⟩
def give (s : St) (k : Nat) : St := ⟨updB s.op k false, updN s.gen k ((s.gen k + 1) % 4), noteL s.tr 82 k⟩
def clear (s : St) : St := ⟨s.op, s.gen, []⟩

/-- Acquire: handle, error, state. -/
def acq (s : St) (k : Int) : Int × Int × St :=
  if 0 ≤ k ∧ k < 4 then
    if s.op k.toNat = true then (0, 4, s) else (k + 4 * (s.gen k.toNat : Int), 0, take s k.toNat)
  else (0, 2, s)

def rel (s : St) (h : Int) : Int × St :=
  if 0 ≤ h ∧ h < 16 then
    if s.hdl (h % 4).toNat = h then (0, give s (h % 4).toNat) else (5, s)
  else (2, s)

def lo (a b : Int) : Int := if b < a then b else a
def hi (a b : Int) : Int := if b < a then a else b

def pair (s : St) (a b : Int) : Int × Int × Int × St :=
  if 0 ≤ a ∧ a < 4 then
    if 0 ≤ b ∧ b < 4 then
      if a = b then (0, 0, 3, s)
      else if s.op (lo a b).toNat = true then (0, 0, 4, s)
      else if s.op (hi a b).toNat = true then (0, 0, 4, give (take s (lo a b).toNat) (lo a b).toNat)
      else (a + 4 * (s.gen a.toNat : Int), b + 4 * (s.gen b.toNat : Int), 0, take (take s (lo a b).toNat) (hi a b).toNat)
    else (0, 0, 2, s)
  else (0, 0, 2, s)

/-- Locks below n are given back, the highest first; how many. -/
def allTo : Nat → St → Nat × St
  | 0, s => (0, s)
  | n + 1, s => if s.op n = true then ((allTo n (give s n)).1 + 1, (allTo n (give s n)).2) else allTo n s

def openD (s : St) (k : Nat) : UInt8 := if s.op k = true then 49 else 48

/-- open=.... gen=.... trace=.. -/
def showL (s : St) : List UInt8 :=
  [111, 112, 101, 110, 61] ++ [openD s 0, openD s 1, openD s 2, openD s 3] ++ [32, 103, 101, 110, 61] ++
  [dig (s.gen 0), dig (s.gen 1), dig (s.gen 2), dig (s.gen 3)] ++ [32, 116, 114, 97, 99, 101, 61] ++ s.tr

/-! ### What stands -/
theorem noteL_len {tr : List UInt8} (c : UInt8) (k : Nat) (h : tr.length ≤ 24) (h2 : tr.length % 2 = 0) : (noteL tr c k).length ≤ 24 ∧ (noteL tr c k).length % 2 = 0 := by
  unfold noteL
  split
  · simp; omega
  · exact ⟨h, h2⟩

theorem init_ok : init.Ok := ⟨fun _ _ => by simp [init], by simp [init], by simp [init]⟩

theorem take_ok {s : St} (h : s.Ok) (k : Nat) : (take s k).Ok :=
  ⟨h.gen, (noteL_len _ _ h.len h.even).1, (noteL_len _ _ h.len h.even).2⟩

theorem give_ok {s : St} (h : s.Ok) (k : Nat) : (give s k).Ok :=
  ⟨fun j hj => by
    simp only [give, updN]
    split
    · omega
    · exact h.gen j hj, (noteL_len _ _ h.len h.even).1, (noteL_len _ _ h.len h.even).2⟩

theorem clear_ok {s : St} (h : s.Ok) : (clear s).Ok := ⟨h.gen, by simp [clear], by simp [clear]⟩

theorem acq_ok {s : St} (h : s.Ok) (k : Int) : (acq s k).2.2.Ok := by
  unfold acq
  split
  · split
    · exact h
    · exact take_ok h _
  · exact h

theorem rel_ok {s : St} (h : s.Ok) (k : Int) : (rel s k).2.Ok := by
  unfold rel
  split
  · split
    · exact give_ok h _
    · exact h
  · exact h

theorem cnt_le (s : St) : s.cnt ≤ 4 := by
  have hb : ∀ b, b1 b ≤ 1 := fun b => by cases b <;> simp [b1]
  have h0 := hb (s.op 0)
  have h1 := hb (s.op 1)
  have h2 := hb (s.op 2)
  have h3 := hb (s.op 3)
  unfold St.cnt
  omega

theorem four {k : Nat} (h : k < 4) : k = 0 ∨ k = 1 ∨ k = 2 ∨ k = 3 := by omega

theorem cnt_take {s : St} {k : Nat} (hk : k < 4) (ho : s.op k = false) : (take s k).cnt = s.cnt + 1 := by
  rcases four hk with h | h | h | h <;> subst h <;> simp [take, St.cnt, updB, b1, ho] <;> omega

theorem cnt_give {s : St} {k : Nat} (hk : k < 4) (ho : s.op k = true) : (give s k).cnt + 1 = s.cnt := by
  rcases four hk with h | h | h | h <;> subst h <;> simp [give, St.cnt, updB, b1, ho] <;> omega

theorem hdl_open {s : St} {k : Nat} (h : s.op k = true) : s.hdl k = (k : Int) + 4 * (s.gen k : Int) := by simp [St.hdl, h]
theorem hdl_free {s : St} {k : Nat} (h : s.op k = false) : s.hdl k = -1 := by simp [St.hdl, h]

theorem hdl_nonneg {s : St} {k : Nat} : (0 ≤ s.hdl k) ↔ s.op k = true := by
  unfold St.hdl
  split <;> rename_i h
  · exact ⟨fun _ => h, fun _ => by omega⟩
  · exact ⟨fun h' => by omega, fun h' => absurd h' h⟩

theorem hdl_lt {s : St} (hs : s.Ok) {k : Nat} (hk : k < 4) : s.hdl k < 16 := by
  have := hs.gen k hk
  unfold St.hdl
  split <;> omega

theorem hdl_take_same (s : St) (k : Nat) : (take s k).hdl k = (k : Int) + 4 * (s.gen k : Int) := by simp [St.hdl, take, updB]
theorem hdl_take_other (s : St) {k j : Nat} (h : j ≠ k) : (take s k).hdl j = s.hdl j := by simp [St.hdl, take, updB, h]
theorem hdl_give_same (s : St) (k : Nat) : (give s k).hdl k = -1 := by simp [St.hdl, give, updB]
theorem hdl_give_other (s : St) {k j : Nat} (h : j ≠ k) : (give s k).hdl j = s.hdl j := by simp [St.hdl, give, updB, updN, h]
theorem gen_give_same (s : St) (k : Nat) : (give s k).gen k = (s.gen k + 1) % 4 := by simp [give, updN]
theorem gen_give_other (s : St) {k j : Nat} (h : j ≠ k) : (give s k).gen j = s.gen j := by simp [give, updN, h]

theorem op_of_hdl {s : St} {k : Nat} {h : Int} (h0 : 0 ≤ h) (e : s.hdl k = h) : s.op k = true := hdl_nonneg.1 (by omega)

theorem allTo_ok : ∀ (n : Nat) {s : St}, s.Ok → (allTo n s).2.Ok
  | 0, _, h => h
  | n + 1, s, h => by
    unfold allTo
    split
    · exact allTo_ok n (give_ok h n)
    · exact allTo_ok n h

end Go.Proofs.Qxb6500452a.L
