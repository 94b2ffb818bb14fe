/- The law's steps and answers; Strs, Counts; Ids, Words, Pairs. -/
import Derived.Test.Qxb6500450aGreatQTop3
namespace Go.Proofs.Qxb6500450aGreat
open Go Go.RowKit
set_option maxRecDepth 100000
set_option maxHeartbeats 1600000
set_option linter.unusedSimpArgs false
set_option linter.unusedVariables false

/-- A step of the script, and an answer, as plain data. -/
structure Stp where
  kind : Int
  a : Int
  b : Int
  c : Int
  s : ByteArray
  t : ByteArray

def Stp.val (o : Stp) : Value := .agg #[.int .i64 o.kind, .int .i64 o.a, .int .i64 o.b, .int .i64 o.c, .string o.s, .string o.t]
def ansV (e n m : Int) (s : ByteArray) : Value := .agg #[.int .i64 e, .int .i64 n, .int .i64 m, .string s]

/-- The end of a player: the answer's four cells are stored and read. -/
theorem retA {fn : Func} {R : Ending → World → Prop} {a : Act} {W : World} {t pa : Nat} {v0 v1 v2 v3 : Value} (hres : fn.results = #[.cell t 41]) (ht : a.tmps.getD t undef = .pointer (some ⟨pa, 0, none⟩)) (hd : a.defers = [])
    (h0 : Has W pa 0) (h1 : Has W pa 1) (h2 : Has W pa 2) (h3 : Has W pa 3)
    (hR : R (.returned (.agg #[v0, v1, v2, v3])) ((((W.setCell ⟨pa, 0, none⟩ v0).setCell ⟨pa, 1, none⟩ v1).setCell ⟨pa, 2, none⟩ v2).setCell ⟨pa, 3, none⟩ v3)) :
    bodyPost Tryz.prog fn R .ret a ((((W.setCell ⟨pa, 0, none⟩ v0).setCell ⟨pa, 1, none⟩ v1).setCell ⟨pa, 2, none⟩ v2).setCell ⟨pa, 3, none⟩ v3) := by
  obtain ⟨_, a0⟩ := h0
  obtain ⟨_, a1⟩ := h1
  obtain ⟨_, a2⟩ := h2
  obtain ⟨_, a3⟩ := h3
  have z0 := ((((a0.same v0).other (b' := pa) (o' := 1) (by omega) v1).other (b' := pa) (o' := 2) (by omega) v2).other (b' := pa) (o' := 3) (by omega) v3).c
  have z1 := ((((a1.other (b' := pa) (o' := 0) (by omega) v0).same v1).other (b' := pa) (o' := 2) (by omega) v2).other (b' := pa) (o' := 3) (by omega) v3).c
  have z2 := ((((a2.other (b' := pa) (o' := 0) (by omega) v0).other (b' := pa) (o' := 1) (by omega) v1).same v2).other (b' := pa) (o' := 3) (by omega) v3).c
  have z3 := ((((a3.other (b' := pa) (o' := 0) (by omega) v0).other (b' := pa) (o' := 1) (by omega) v1).other (b' := pa) (o' := 2) (by omega) v2).same v3).c
  generalize (((W.setCell ⟨pa, 0, none⟩ v0).setCell ⟨pa, 1, none⟩ v1).setCell ⟨pa, 2, none⟩ v2).setCell ⟨pa, 3, none⟩ v3 = W4 at *
  have ht' : a.tmps[t]?.getD undef = .pointer (some ⟨pa, 0, none⟩) := by simpa using ht
  refine ⟨hd, _, ?_, hR⟩
  simp [results, hres, go_sem, ht', z0, z1, z2, z3]

/-- Four cells of an answer's box. -/
structure Box (w : World) (pa : Nat) : Prop where
  a0 : At w pa 0 (.int .i64 0)
  a1 : At w pa 1 (.int .i64 0)
  a2 : At w pa 2 (.int .i64 0)
  a3 : At w pa 3 (.string ⟨#[]⟩)
theorem Box.fr {w w' : World} {pa : Nat} (h : Box w pa) {S : Nat → Prop} (hf : Fr S w w') (hn : ¬ S pa) : Box w' pa := ⟨h.a0.fr hf hn, h.a1.fr hf hn, h.a2.fr hf hn, h.a3.fr hf hn⟩
theorem Box.new (w : World) : Box (w.alloc (.cells #[.int .i64 0, .int .i64 0, .int .i64 0, .string ⟨#[]⟩] 41)) w.heap.size := ⟨At.new w _ _ rfl, At.new w _ _ rfl, At.new w _ _ rfl, At.new w _ _ rfl⟩
theorem box_fr (w : World) (pa : Nat) (v0 v1 v2 v3 : Value) : Fr (fun i => i = pa) w ((((w.setCell ⟨pa, 0, none⟩ v0).setCell ⟨pa, 1, none⟩ v1).setCell ⟨pa, 2, none⟩ v2).setCell ⟨pa, 3, none⟩ v3) :=
  ((((Fr.refl (fun i => i = pa) w).setCell (p := ⟨pa, 0, none⟩) (fun _ => rfl) v0).setCell (p := ⟨pa, 1, none⟩) (fun _ => rfl) v1).setCell (p := ⟨pa, 2, none⟩) (fun _ => rfl) v2).setCell (p := ⟨pa, 3, none⟩) (fun _ => rfl) v3

def strs : List ByteArray → List UInt8
  | [] => []
  | x :: l => x.data.toList ++ [32] ++ strs l
theorem strs_snoc : ∀ (l : List ByteArray) (x : ByteArray), strs (l ++ [x]) = strs l ++ x.data.toList ++ [32]
  | [], x => by simp [strs]
  | y :: l, x => by simp [strs, strs_snoc l x]
theorem strs_len : ∀ l : List ByteArray, (∀ x ∈ l, x.size ≤ 12) → (strs l).length ≤ 13 * l.length
  | [], _ => by simp [strs]
  | x :: l, h => by
    have h1 := h x (by simp)
    have h2 := strs_len l (fun y hy => h y (by simp [hy]))
    have h3 : x.data.toList.length = x.size := by simp
    simp only [strs, List.length_append, List.length_cons, List.length_nil, h3]
    omega
theorem bs_dataS (x : ByteArray) : bs x.data.toList = x := by apply ByteArray.ext; simp [bs]
theorem strs_any {w : World} {base : Nat} {v : Value} {l : List ByteArray} (h : OwnS w base v l) (hs : ∀ x ∈ l, x.size ≤ 12) (hl : l.length ≤ 1000) :
    Calls Tryz.prog 61 #[v] w fun e w' => e = .returned (.string (bs (strs l))) ∧ w' = w := by
  have H := hid h
  have HS := hid hs
  obtain ⟨va, vc, hv⟩ := h.form
  subst hv
  have hlI : (l.length : Int) ≤ 1000 := by omega
  clear h hs
  go_enter Tryz.func61, Tryz.ntmps61
  go_wp2_with fail
  go_loop [3, 4] (fun s a => ∃ k : Nat, k ≤ l.length ∧ a = .int .i64 k ∧ s = .string (bs (strs (l.take k)))) (fun _ a => l.length - (intOf a).toNat)
  case atStart => exact ⟨0, by omega, rfl, by simp [strs, bs]⟩
  case round =>
    obtain ⟨k, hk, rfl, rfl⟩ := hrel
    have hk0 : (0 : Int) ≤ (k : Int) := by omega
    by_cases hlt : k < l.length
    · have hltI : (k : Int) < (l.length : Int) := by omega
      rcases H.out.empty with ⟨_, hn⟩ | ⟨gv, cv, hv, hgb, hgl⟩
      · rw [hn] at hlt; simp at hlt
      cases hv
      have cw := (H.out.cell rfl hlt).c
      have hsx := HS.out _ (getD_mem hlt)
      have HTK := hid (take_succ_getD l k hlt)
      have hz : (bs (strs (l.take k))).size ≤ 13000 := by
        rw [bs_size]
        have h1 := strs_len (l.take k) (fun x hx => HS.out x (List.mem_of_mem_take hx))
        have h2 : (l.take k).length ≤ 1000 := by rw [List.length_take]; omega
        omega
      generalize l.getD k ⟨#[]⟩ = x at *
      have HEQ : Hid ((bs (strs (l.take k)) ++ x) ++ ⟨#[32]⟩ = bs (strs (l.take (k + 1)))) := by
        unfold Hid
        rw [HTK.out, strs_snoc, ← bs_append, ← bs_append, bs_dataS]
        rfl
      generalize bs (strs (l.take k)) = s0 at *
      go_wp2_with fail
      exact ⟨⟨k + 1, by omega, by go_num, by rw [← HEQ.out]⟩, by simp [intOf]; omega⟩
    · have hltI : ¬ (k : Int) < (l.length : Int) := by omega
      have HE : Hid (l.take k = l) := List.take_of_length_le (by omega)
      rw [HE.out]
      go_wp2_with fail
      go_ret
      exact ⟨rfl, rfl⟩

def cnts : List C2 → List UInt8
  | [] => []
  | d :: l => itoa d.1 ++ [58] ++ itoa d.2 ++ [32] ++ cnts l
theorem cnts_snoc : ∀ (l : List C2) (d : C2), cnts (l ++ [d]) = cnts l ++ (itoa d.1 ++ [58] ++ itoa d.2 ++ [32])
  | [], d => by simp [cnts]
  | y :: l, d => by simp [cnts, cnts_snoc l d]
theorem cnts_len : ∀ l : List C2, (cnts l).length ≤ 44 * l.length
  | [] => by simp [cnts]
  | d :: l => by
    have h1 := itoa_len d.1
    have h2 := itoa_len d.2
    have h3 := cnts_len l
    simp only [cnts, List.length_append, List.length_cons, List.length_nil]
    omega
theorem getD_memC {l : List C2} {k : Nat} (h : k < l.length) : l.getD k (0, 0) ∈ l := by
  have : l.getD k (0, 0) = l[k] := by simp [List.getD, h]
  rw [this]; exact List.getElem_mem _
theorem take_succC (l : List C2) (k : Nat) (h : k < l.length) : l.take (k + 1) = l.take k ++ [l.getD k (0, 0)] := by
  rw [List.take_succ_eq_append_getElem h]
  simp [List.getD, h]
theorem counts_any {w : World} {base : Nat} {v : Value} {l : List C2} (h : OwnC w base v l) (hs : ∀ d ∈ l, I64 d.1 ∧ I64 d.2) (hl : l.length ≤ 1000) :
    Calls Tryz.prog 57 #[v] w fun e w' => e = .returned (.string (bs (cnts l))) ∧ Fr (fun _ => False) w w' := by
  have H := hid h
  have HS := hid hs
  obtain ⟨va, vc, hv⟩ := h.form
  subst hv
  have hlI : (l.length : Int) ≤ 1000 := by omega
  clear h hs
  go_enter Tryz.func57, Tryz.ntmps57
  go_wp2_with fail
  go_loopw [3, 4] (fun s a wr => ∃ k : Nat, k ≤ l.length ∧ a = .int .i64 k ∧ s = .string (bs (cnts (l.take k))) ∧ Fr (fun _ => False) w wr) (fun _ a _ => l.length - (intOf a).toNat)
  case atStart => exact ⟨0, by omega, rfl, by simp [cnts, bs], Fr.refl _ _⟩
  case round =>
    obtain ⟨k, hk, rfl, rfl, fr⟩ := hrel
    have FR := hid fr
    have hk0 : (0 : Int) ≤ (k : Int) := by omega
    clear fr
    by_cases hlt : k < l.length
    · have hltI : (k : Int) < (l.length : Int) := by omega
      rcases H.out.empty with ⟨_, hn⟩ | ⟨gv, cv, hv, hgb, hgl⟩
      · rw [hn] at hlt; simp at hlt
      cases hv
      have CW := hid (H.out.cell rfl hlt)
      have hsx := HS.out _ (getD_memC hlt)
      have HTK := hid (take_succC l k hlt)
      have hz : (bs (cnts (l.take k))).size ≤ 44000 := by
        rw [bs_size]
        have h1 := cnts_len (l.take k)
        have h2 : (l.take k).length ≤ 1000 := by rw [List.length_take]; omega
        omega
      generalize l.getD k (0, 0) = x at *
      have HEQ : Hid ((((bs (cnts (l.take k)) ++ bs (itoa x.1)) ++ ⟨#[58]⟩) ++ bs (itoa x.2)) ++ ⟨#[32]⟩ = bs (cnts (l.take (k + 1)))) := by
        unfold Hid
        rw [HTK.out, cnts_snoc, ← bs_append, ← bs_append, ← bs_append, ← bs_append]
        simp only [ByteArray.append_assoc]
        rfl
      have z1 : (bs (itoa x.1)).size ≤ 21 := by rw [bs_size]; exact itoa_len _
      have z2 : (bs (itoa x.2)).size ≤ 21 := by rw [bs_size]; exact itoa_len _
      generalize bs (cnts (l.take k)) = s0 at *
      obtain ⟨⟨q1, q2⟩, q3, q4⟩ := hsx
      have q0 := (CW.out.1.fr FR.out (fun h => h)).c
      go_wp2_with fail
      refine (itoa_any x.1 _ q1 q2).mono ?_
      rintro e w2 ⟨rfl, f2⟩
      have FR2 := hid (FR.out.trans f2)
      have q5 := (CW.out.2.fr FR2.out (fun h => h)).c
      clear f2 q0
      go_wp2_with fail
      refine (itoa_any x.2 _ q3 q4).mono ?_
      rintro e w3 ⟨rfl, f3⟩
      have FR3 := hid (FR2.out.trans f3)
      clear f3 q5
      generalize bs (itoa x.1) = s1 at *
      generalize bs (itoa x.2) = s2 at *
      go_wp2_with fail
      exact ⟨⟨k + 1, by omega, by go_num, by rw [← HEQ.out], FR3.out⟩, by simp [intOf]; omega⟩
    · have hltI : ¬ (k : Int) < (l.length : Int) := by omega
      have HE : Hid (l.take k = l) := List.take_of_length_le (by omega)
      rw [HE.out]
      go_wp2_with fail
      go_ret
      exact ⟨rfl, FR.out⟩

/-- Ids: the list is spelled, then every cell of it is overwritten. -/
theorem ids_law {w : World} {base : Nat} {v : Value} {l : List Int} (h : OwnI w base v l) (hi : ∀ n ∈ l, I64 n) (hv : l = [] → v = .slice none 0 0) (e0 : Int) (hl : l.length ≤ 1000000) :
    Calls Tryz.prog 26 #[v, .int .i64 e0] w fun x w' => x = .returned (ansV e0 (l.length : Int) 0 (bs (ints l))) ∧ Fr (fun i => base ≤ i) w w' := by
  have HB := hid (Box.new w)
  have FB := hid ((Fr.refl (fun _ => False) w).alloc (.cells #[.int .i64 0, .int .i64 0, .int .i64 0, .string ⟨#[]⟩] 41))
  rcases h.empty with ⟨rfl, rfl⟩ | ⟨g, cap, rfl, hb, hg⟩
  · clear hv
    go_enter Tryz.func26, Tryz.ntmps26
    go_wp2_with fail
    refine (ints_any (l := []) 0 ⟨fun n hn => by simp at hn, .inl rfl⟩ (by simp)).mono ?_
    rintro e w1 ⟨rfl, f1⟩
    have B1 := hid (HB.out.fr f1 (fun h => h))
    have F1 := hid (FB.out.trans f1)
    clear f1 HB FB
    obtain ⟨pa, hpa⟩ : ∃ pa, pa = w.heap.size := ⟨_, rfl⟩
    rw [← hpa] at B1 ⊢
    have HPA := hid hpa
    clear hpa
    have c0 := B1.out.a0.c
    have c1 := B1.out.a1.c
    have c2 := B1.out.a2.c
    have c3 := B1.out.a3.c
    have f0 := B1.out.a0.f
    have f1 := B1.out.a1.f
    have f2 := B1.out.a2.f
    have f3 := B1.out.a3.f
    go_wp2_with fail
    refine wp_loop_rounds 1 ?_
    rw [rounds_succ]
    go_wp2_with fail
    refine retA Tryz.results26 rfl rfl B1.out.a0.has B1.out.a1.has B1.out.a2.has B1.out.a3.has ⟨by simp [ansV, ints], ?_⟩
    exact (F1.out.mono (fun _ _ h => h.elim)).then (box_fr _ _ _ _ _ _) (fun i hi e => by have := HPA.out; omega)
  · have hpos : 0 < l.length ∨ l = [] := by cases l <;> simp
    rcases hpos with hpos | rfl
    · have HO := hid h
      have HI := hid hi
      obtain ⟨n, hn⟩ : ∃ n, n = l.length := ⟨_, rfl⟩
      have HN := hid hn
      rw [← hn] at hpos hl ⊢
      have hpI : ((n : Int) == 0) = false := by simp; omega
      have hnil : ∀ W, (binOp BinOp.neq 59 (.slice (some ⟨g, 0, none⟩) n cap) (.slice none 0 0)).run Tryz.prog W = .ok (.bool true) W := fun W => by kernel_rfl
      clear h hn hv hi
      go_enter Tryz.func26, Tryz.ntmps26
      go_wp2_with fail
      have IA : Hid (IntsAt (w.alloc (.cells #[.int .i64 0, .int .i64 0, .int .i64 0, .string ⟨#[]⟩] 41)) (some ⟨g, 0, none⟩) l) := by
        obtain ⟨a, cp, e, h⟩ := (HO.out.fr FB.out (fun _ _ h => h)).ints HI.out
        rw [← HN.out] at e
        cases e
        exact h
      have hc := ints_any (l := l) cap IA.out (by rw [← HN.out]; exact hl)
      rw [← HN.out] at hc
      refine hc.mono ?_
      clear hc
      rintro e w1 ⟨rfl, f1⟩
      have O1 := hid ((HO.out.fr FB.out (fun _ _ h => h)).fr f1 (fun _ _ h => h))
      have B1 := hid (HB.out.fr f1 (fun h => h))
      have F1 := hid (FB.out.trans f1)
      clear f1 HB FB HO IA
      obtain ⟨pa, hpa⟩ : ∃ pa, pa = w.heap.size := ⟨_, rfl⟩
      rw [← hpa] at B1 ⊢
      have HPA := hid hpa
      have hgp : pa ≠ g := by omega
      clear hpa
      rw [← HN.out] at O1
      go_wp2_with fail
      go_loopw [6] (fun i wr => ∃ (k : Nat) (l' : List Int), k ≤ n ∧ i = .int .i64 k ∧ l'.length = n ∧ OwnI wr base (.slice (some ⟨g, 0, none⟩) n cap) l' ∧ Fr (fun i => i = g) w1 wr) (fun i _ => n - (intOf i).toNat)
      case atStart => exact ⟨0, l, by omega, rfl, HN.out.symm, O1.out, Fr.refl _ _⟩
      case round =>
        clear O1
        obtain ⟨k, l', hk, rfl, hl', ow, fr⟩ := hrel
        have OW := hid ow
        have FR := hid fr
        have HL := hid hl'
        have hk0 : (0 : Int) ≤ (k : Int) := by omega
        by_cases hlt : k < n
        · have hltI : (k : Int) < (n : Int) := by omega
          have a := ow.cell hl'.symm (j := k) (by omega)
          have c := a.c
          have x := a.f
          clear a ow fr hl'
          go_wp2_with fail
          exact ⟨⟨k + 1, l'.set k (-7), by omega, by go_num, by rw [List.length_set]; exact HL.out, OW.out.set HL.out.symm k (-7), FR.out.setCell (p := ⟨g, k, none⟩) (fun _ => rfl) _⟩, by simp [intOf]; omega⟩
        · have hltI : ¬ (k : Int) < (n : Int) := by omega
          clear ow hl'
          have B2 := hid (B1.out.fr fr hgp)
          have c0 := B2.out.a0.c
          have c1 := B2.out.a1.c
          have c2 := B2.out.a2.c
          have c3 := B2.out.a3.c
          have f0 := B2.out.a0.f
          have f1 := B2.out.a1.f
          have f2 := B2.out.a2.f
          have f3 := B2.out.a3.f
          clear fr
          go_wp2_with fail
          refine retA Tryz.results26 rfl rfl B2.out.a0.has B2.out.a1.has B2.out.a2.has B2.out.a3.has ⟨by simp [ansV], ?_⟩
          exact ((F1.out.mono (S' := fun i => base ≤ i) (fun _ _ h => h.elim)).then (FR.out.mono (S' := fun i => base ≤ i) (fun i _ e => by omega)) (fun _ _ h => h)).then (box_fr _ _ _ _ _ _) (fun i hi e => by have := HPA.out; omega)
    · have := hv rfl
      cases this

/-- Words: the list is spelled, then every cell of it is overwritten. -/
theorem words_law {w : World} {base : Nat} {v : Value} {l : List ByteArray} (h : OwnS w base v l) (hi : ∀ x ∈ l, x.size ≤ 12) (hv : l = [] → v = .slice none 0 0) (e0 : Int) (hl : l.length ≤ 1000) :
    Calls Tryz.prog 30 #[v, .int .i64 e0] w fun x w' => x = .returned (ansV e0 (l.length : Int) 0 (bs (strs l))) ∧ Fr (fun i => base ≤ i) w w' := by
  have HB := hid (Box.new w)
  have FB := hid ((Fr.refl (fun _ => False) w).alloc (.cells #[.int .i64 0, .int .i64 0, .int .i64 0, .string ⟨#[]⟩] 41))
  rcases h.empty with ⟨rfl, rfl⟩ | ⟨g, cap, rfl, hb, hg⟩
  · clear hv
    go_enter Tryz.func30, Tryz.ntmps30
    go_wp2_with fail
    refine (strs_any (OwnS.nil (w.alloc (.cells #[.int .i64 0, .int .i64 0, .int .i64 0, .string ⟨#[]⟩] 41)) 0) (by simp) (by simp)).mono ?_
    rintro e w1 ⟨rfl, hw1⟩
    have f1 : Fr (fun _ => False) (w.alloc (.cells #[.int .i64 0, .int .i64 0, .int .i64 0, .string ⟨#[]⟩] 41)) w1 := hw1 ▸ Fr.refl _ _
    clear hw1
    have B1 := hid (HB.out.fr f1 (fun h => h))
    have F1 := hid (FB.out.trans f1)
    clear f1 HB FB
    obtain ⟨pa, hpa⟩ : ∃ pa, pa = w.heap.size := ⟨_, rfl⟩
    rw [← hpa] at B1 ⊢
    have HPA := hid hpa
    clear hpa
    have c0 := B1.out.a0.c
    have c1 := B1.out.a1.c
    have c2 := B1.out.a2.c
    have c3 := B1.out.a3.c
    have f0 := B1.out.a0.f
    have f1 := B1.out.a1.f
    have f2 := B1.out.a2.f
    have f3 := B1.out.a3.f
    go_wp2_with fail
    refine wp_loop_rounds 1 ?_
    rw [rounds_succ]
    go_wp2_with fail
    refine retA Tryz.results30 rfl rfl B1.out.a0.has B1.out.a1.has B1.out.a2.has B1.out.a3.has ⟨by simp [ansV, strs], ?_⟩
    exact (F1.out.mono (fun _ _ h => h.elim)).then (box_fr _ _ _ _ _ _) (fun i hi e => by have := HPA.out; omega)
  · have hpos : 0 < l.length ∨ l = [] := by cases l <;> simp
    rcases hpos with hpos | rfl
    · have HO := hid h
      have HI := hid hi
      obtain ⟨n, hn⟩ : ∃ n, n = l.length := ⟨_, rfl⟩
      have HN := hid hn
      rw [← hn] at hpos hl ⊢
      have hpI : ((n : Int) == 0) = false := by simp; omega
      have hnil : ∀ W, (binOp BinOp.neq 67 (.slice (some ⟨g, 0, none⟩) n cap) (.slice none 0 0)).run Tryz.prog W = .ok (.bool true) W := fun W => by kernel_rfl
      clear h hn hv hi
      go_enter Tryz.func30, Tryz.ntmps30
      go_wp2_with fail
      have hc := strs_any (HO.out.fr FB.out (fun _ _ h => h)) HI.out (by rw [← HN.out]; exact hl)
      rw [← HN.out] at hc
      refine hc.mono ?_
      clear hc
      rintro e w1 ⟨rfl, hw1⟩
      have f1 : Fr (fun _ => False) (w.alloc (.cells #[.int .i64 0, .int .i64 0, .int .i64 0, .string ⟨#[]⟩] 41)) w1 := hw1 ▸ Fr.refl _ _
      clear hw1
      have O1 := hid ((HO.out.fr FB.out (fun _ _ h => h)).fr f1 (fun _ _ h => h))
      have B1 := hid (HB.out.fr f1 (fun h => h))
      have F1 := hid (FB.out.trans f1)
      clear f1 HB FB HO
      obtain ⟨pa, hpa⟩ : ∃ pa, pa = w.heap.size := ⟨_, rfl⟩
      rw [← hpa] at B1 ⊢
      have HPA := hid hpa
      have hgp : pa ≠ g := by omega
      clear hpa
      rw [← HN.out] at O1
      go_wp2_with fail
      go_loopw [6] (fun i wr => ∃ (k : Nat) (l' : List ByteArray), k ≤ n ∧ i = .int .i64 k ∧ l'.length = n ∧ OwnS wr base (.slice (some ⟨g, 0, none⟩) n cap) l' ∧ Fr (fun i => i = g) w1 wr) (fun i _ => n - (intOf i).toNat)
      case atStart => exact ⟨0, l, by omega, rfl, HN.out.symm, O1.out, Fr.refl _ _⟩
      case round =>
        clear O1
        obtain ⟨k, l', hk, rfl, hl', ow, fr⟩ := hrel
        have OW := hid ow
        have FR := hid fr
        have HL := hid hl'
        have hk0 : (0 : Int) ≤ (k : Int) := by omega
        by_cases hlt : k < n
        · have hltI : (k : Int) < (n : Int) := by omega
          have a := ow.cell hl'.symm (j := k) (by omega)
          have c := a.c
          have x := a.f
          clear a ow fr hl'
          go_wp2_with fail
          exact ⟨⟨k + 1, l'.set k ⟨#[33]⟩, by omega, by go_num, by rw [List.length_set]; exact HL.out, OW.out.set HL.out.symm k ⟨#[33]⟩, FR.out.setCell (p := ⟨g, k, none⟩) (fun _ => rfl) _⟩, by simp [intOf]; omega⟩
        · have hltI : ¬ (k : Int) < (n : Int) := by omega
          clear ow hl'
          have B2 := hid (B1.out.fr fr hgp)
          have c0 := B2.out.a0.c
          have c1 := B2.out.a1.c
          have c2 := B2.out.a2.c
          have c3 := B2.out.a3.c
          have f0 := B2.out.a0.f
          have f1 := B2.out.a1.f
          have f2 := B2.out.a2.f
          have f3 := B2.out.a3.f
          clear fr
          go_wp2_with fail
          refine retA Tryz.results30 rfl rfl B2.out.a0.has B2.out.a1.has B2.out.a2.has B2.out.a3.has ⟨by simp [ansV], ?_⟩
          exact ((F1.out.mono (S' := fun i => base ≤ i) (fun _ _ h => h.elim)).then (FR.out.mono (S' := fun i => base ≤ i) (fun i _ e => by omega)) (fun _ _ h => h)).then (box_fr _ _ _ _ _ _) (fun i hi e => by have := HPA.out; omega)
    · have := hv rfl
      cases this

/-- Pairs: the list is spelled, then every cell of it is overwritten. -/
theorem pairs_law {w : World} {base : Nat} {v : Value} {l : List C2} (h : OwnC w base v l) (hi : ∀ d ∈ l, I64 d.1 ∧ I64 d.2) (hv : l = [] → v = .slice none 0 0) (e0 : Int) (hl : l.length ≤ 1000) :
    Calls Tryz.prog 28 #[v, .int .i64 e0] w fun x w' => x = .returned (ansV e0 (l.length : Int) 0 (bs (cnts l))) ∧ Fr (fun i => base ≤ i) w w' := by
  have HB := hid (Box.new w)
  have FB := hid ((Fr.refl (fun _ => False) w).alloc (.cells #[.int .i64 0, .int .i64 0, .int .i64 0, .string ⟨#[]⟩] 41))
  rcases h.empty with ⟨rfl, rfl⟩ | ⟨g, cap, rfl, hb, hg⟩
  · clear hv
    go_enter Tryz.func28, Tryz.ntmps28
    go_wp2_with fail
    refine (counts_any (OwnC.nil (w.alloc (.cells #[.int .i64 0, .int .i64 0, .int .i64 0, .string ⟨#[]⟩] 41)) 0) (by simp) (by simp)).mono ?_
    rintro e w1 ⟨rfl, f1⟩
    have B1 := hid (HB.out.fr f1 (fun h => h))
    have F1 := hid (FB.out.trans f1)
    clear f1 HB FB
    obtain ⟨pa, hpa⟩ : ∃ pa, pa = w.heap.size := ⟨_, rfl⟩
    rw [← hpa] at B1 ⊢
    have HPA := hid hpa
    clear hpa
    have c0 := B1.out.a0.c
    have c1 := B1.out.a1.c
    have c2 := B1.out.a2.c
    have c3 := B1.out.a3.c
    have f0 := B1.out.a0.f
    have f1 := B1.out.a1.f
    have f2 := B1.out.a2.f
    have f3 := B1.out.a3.f
    go_wp2_with fail
    refine wp_loop_rounds 1 ?_
    rw [rounds_succ]
    go_wp2_with fail
    refine retA Tryz.results28 rfl rfl B1.out.a0.has B1.out.a1.has B1.out.a2.has B1.out.a3.has ⟨by simp [ansV, cnts], ?_⟩
    exact (F1.out.mono (fun _ _ h => h.elim)).then (box_fr _ _ _ _ _ _) (fun i hi e => by have := HPA.out; omega)
  · have hpos : 0 < l.length ∨ l = [] := by cases l <;> simp
    rcases hpos with hpos | rfl
    · have HO := hid h
      have HI := hid hi
      obtain ⟨n, hn⟩ : ∃ n, n = l.length := ⟨_, rfl⟩
      have HN := hid hn
      rw [← hn] at hpos hl ⊢
      have hpI : ((n : Int) == 0) = false := by simp; omega
      have hnil : ∀ W, (binOp BinOp.neq 63 (.slice (some ⟨g, 0, none⟩) n cap) (.slice none 0 0)).run Tryz.prog W = .ok (.bool true) W := fun W => by kernel_rfl
      clear h hn hv hi
      go_enter Tryz.func28, Tryz.ntmps28
      go_wp2_with fail
      have hc := counts_any (HO.out.fr FB.out (fun _ _ h => h)) HI.out (by rw [← HN.out]; exact hl)
      rw [← HN.out] at hc
      refine hc.mono ?_
      clear hc
      rintro e w1 ⟨rfl, f1⟩
      have O1 := hid ((HO.out.fr FB.out (fun _ _ h => h)).fr f1 (fun _ _ h => h))
      have B1 := hid (HB.out.fr f1 (fun h => h))
      have F1 := hid (FB.out.trans f1)
      clear f1 HB FB HO
      obtain ⟨pa, hpa⟩ : ∃ pa, pa = w.heap.size := ⟨_, rfl⟩
      rw [← hpa] at B1 ⊢
      have HPA := hid hpa
      have hgp : pa ≠ g := by omega
      clear hpa
      rw [← HN.out] at O1
      go_wp2_with fail
      go_loopw [6] (fun i wr => ∃ (k : Nat) (l' : List C2), k ≤ n ∧ i = .int .i64 k ∧ l'.length = n ∧ OwnC wr base (.slice (some ⟨g, 0, none⟩) n cap) l' ∧ Fr (fun i => i = g) w1 wr) (fun i _ => n - (intOf i).toNat)
      case atStart => exact ⟨0, l, by omega, rfl, HN.out.symm, O1.out, Fr.refl _ _⟩
      case round =>
        clear O1
        obtain ⟨k, l', hk, rfl, hl', ow, fr⟩ := hrel
        have OW := hid ow
        have FR := hid fr
        have HL := hid hl'
        have hk0 : (0 : Int) ≤ (k : Int) := by omega
        by_cases hlt : k < n
        · have hltI : (k : Int) < (n : Int) := by omega
          have a := ow.cell hl'.symm (j := k) (by omega)
          have c := a.1.c
          have x := a.1.f
          have c' := a.2.c
          have x' := a.2.f
          clear a ow fr hl'
          go_wp2_with fail
          exact ⟨⟨k + 1, l'.set k (-7, -7), by omega, by go_num, by rw [List.length_set]; exact HL.out, OW.out.set HL.out.symm k (-7, -7), (FR.out.setCell (p := ⟨g, k * 2, none⟩) (fun _ => rfl) _).setCell (p := ⟨g, k * 2 + 1, none⟩) (fun _ => rfl) _⟩, by simp [intOf]; omega⟩
        · have hltI : ¬ (k : Int) < (n : Int) := by omega
          clear ow hl'
          have B2 := hid (B1.out.fr fr hgp)
          have c0 := B2.out.a0.c
          have c1 := B2.out.a1.c
          have c2 := B2.out.a2.c
          have c3 := B2.out.a3.c
          have f0 := B2.out.a0.f
          have f1 := B2.out.a1.f
          have f2 := B2.out.a2.f
          have f3 := B2.out.a3.f
          clear fr
          go_wp2_with fail
          refine retA Tryz.results28 rfl rfl B2.out.a0.has B2.out.a1.has B2.out.a2.has B2.out.a3.has ⟨by simp [ansV], ?_⟩
          exact ((F1.out.mono (S' := fun i => base ≤ i) (fun _ _ h => h.elim)).then (FR.out.mono (S' := fun i => base ≤ i) (fun i _ e => by omega)) (fun _ _ h => h)).then (box_fr _ _ _ _ _ _) (fun i hi e => by have := HPA.out; omega)
    · have := hv rfl
      cases this

end Go.Proofs.Qxb6500450aGreat
