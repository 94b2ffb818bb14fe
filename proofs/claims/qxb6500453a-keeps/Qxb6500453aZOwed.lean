/- What the law owes: One, OwedCensus, OwedTransfer. -/
import Derived.Test.Qxb6500453aZGhost
import Derived.Test.Qxb6500453aZPlain2
namespace Go.Proofs.Qxb6500453a
open Go Go.RowKit
set_option maxRecDepth 100000
set_option maxHeartbeats 1600000
set_option linter.unusedSimpArgs false
set_option linter.unusedVariables false

/-- An end: an answer's box, stored and read, and one or two temporaries beside it. -/
theorem retO2 {fn : Func} {R : Ending → World → Prop} {a : Act} {W : World} {c d pa : Nat} {tv v0 v1 v2 v3 : Value} (hres : fn.results = #[.cell c 51, .tmp d]) (h6 : a.tmps.getD d undef = tv) (ht : a.tmps.getD c undef = .pointer (some ⟨pa, 0, none⟩)) (hd : a.defers = [])
    (h0 : Has W pa 0) (h1 : Has W pa 1) (h2 : Has W pa 2) (h3 : Has W pa 3)
    (hR : R (.returned (.tuple #[.agg #[v0, v1, v2, v3], tv])) ((((W.setCell ⟨pa, 0, none⟩ v0).setCell ⟨pa, 1, none⟩ v1).setCell ⟨pa, 2, none⟩ v2).setCell ⟨pa, 3, none⟩ v3)) :
    bodyPost Try.prog fn R .ret a ((((W.setCell ⟨pa, 0, none⟩ v0).setCell ⟨pa, 1, none⟩ v1).setCell ⟨pa, 2, none⟩ v2).setCell ⟨pa, 3, none⟩ v3) := by
  obtain ⟨_, a0⟩ := h0
  obtain ⟨_, a1⟩ := h1
  obtain ⟨_, a2⟩ := h2
  obtain ⟨_, a3⟩ := h3
  have z0 := ((((a0.same v0).other (b' := pa) (o' := 1) (by omega) v1).other (b' := pa) (o' := 2) (by omega) v2).other (b' := pa) (o' := 3) (by omega) v3).c
  have z1 := ((((a1.other (b' := pa) (o' := 0) (by omega) v0).same v1).other (b' := pa) (o' := 2) (by omega) v2).other (b' := pa) (o' := 3) (by omega) v3).c
  have z2 := ((((a2.other (b' := pa) (o' := 0) (by omega) v0).other (b' := pa) (o' := 1) (by omega) v1).same v2).other (b' := pa) (o' := 3) (by omega) v3).c
  have z3 := ((((a3.other (b' := pa) (o' := 0) (by omega) v0).other (b' := pa) (o' := 1) (by omega) v1).other (b' := pa) (o' := 2) (by omega) v2).same v3).c
  generalize (((W.setCell ⟨pa, 0, none⟩ v0).setCell ⟨pa, 1, none⟩ v1).setCell ⟨pa, 2, none⟩ v2).setCell ⟨pa, 3, none⟩ v3 = W4 at *
  have ht' : a.tmps[c]?.getD undef = .pointer (some ⟨pa, 0, none⟩) := by simpa using ht
  have h6' : a.tmps[d]?.getD undef = tv := by simpa using h6
  refine ⟨hd, _, ?_, hR⟩
  simp [results, hres, go_sem, ht', h6', z0, z1, z2, z3]
theorem retO3 {fn : Func} {R : Ending → World → Prop} {a : Act} {W : World} {pa : Nat} {tv sv v0 v1 v2 v3 : Value} (hres : fn.results = #[.cell 4 51, .tmp 5, .tmp 6]) (h5 : a.tmps.getD 5 undef = tv) (h6 : a.tmps.getD 6 undef = sv) (ht : a.tmps.getD 4 undef = .pointer (some ⟨pa, 0, none⟩)) (hd : a.defers = [])
    (h0 : Has W pa 0) (h1 : Has W pa 1) (h2 : Has W pa 2) (h3 : Has W pa 3)
    (hR : R (.returned (.tuple #[.agg #[v0, v1, v2, v3], tv, sv])) ((((W.setCell ⟨pa, 0, none⟩ v0).setCell ⟨pa, 1, none⟩ v1).setCell ⟨pa, 2, none⟩ v2).setCell ⟨pa, 3, none⟩ v3)) :
    bodyPost Try.prog fn R .ret a ((((W.setCell ⟨pa, 0, none⟩ v0).setCell ⟨pa, 1, none⟩ v1).setCell ⟨pa, 2, none⟩ v2).setCell ⟨pa, 3, none⟩ v3) := by
  obtain ⟨_, a0⟩ := h0
  obtain ⟨_, a1⟩ := h1
  obtain ⟨_, a2⟩ := h2
  obtain ⟨_, a3⟩ := h3
  have z0 := ((((a0.same v0).other (b' := pa) (o' := 1) (by omega) v1).other (b' := pa) (o' := 2) (by omega) v2).other (b' := pa) (o' := 3) (by omega) v3).c
  have z1 := ((((a1.other (b' := pa) (o' := 0) (by omega) v0).same v1).other (b' := pa) (o' := 2) (by omega) v2).other (b' := pa) (o' := 3) (by omega) v3).c
  have z2 := ((((a2.other (b' := pa) (o' := 0) (by omega) v0).other (b' := pa) (o' := 1) (by omega) v1).same v2).other (b' := pa) (o' := 3) (by omega) v3).c
  have z3 := ((((a3.other (b' := pa) (o' := 0) (by omega) v0).other (b' := pa) (o' := 1) (by omega) v1).other (b' := pa) (o' := 2) (by omega) v2).same v3).c
  generalize (((W.setCell ⟨pa, 0, none⟩ v0).setCell ⟨pa, 1, none⟩ v1).setCell ⟨pa, 2, none⟩ v2).setCell ⟨pa, 3, none⟩ v3 = W4 at *
  have ht' : a.tmps[4]?.getD undef = .pointer (some ⟨pa, 0, none⟩) := by simpa using ht
  have h5' : a.tmps[5]?.getD undef = tv := by simpa using h5
  have h6' : a.tmps[6]?.getD undef = sv := by simpa using h6
  refine ⟨hd, _, ?_, hR⟩
  simp [results, hres, go_sem, ht', h5', h6', z0, z1, z2, z3]

theorem one_owed {w : World} {P : Nat} {s : Led} {v : Value} (g : GH w P s.bal s.un s.lk.op v) (ok : s.lk.Ok) (k : Int) :
    Calls Try.prog 53 #[.pointer (some ⟨P, 0, none⟩), .int .i64 k] w fun e w' => e = .returned (.tuple #[.int .i64 (acqE s k), .string (L.bs (oneS s k).lk.tr)]) ∧ Fr (fun _ => False) w w' := by
  by_cases k0 : k < 0
  · obtain ⟨h1, h2⟩ := one_out (s := s) (k := k) (by omega)
    rw [h1, h2]
    clear h1 h2 g ok
    go_enter Try.func53, Try.ntmps53
    go_wp2_with fail
    go_ret2
    exact ⟨rfl, Fr.refl _ _⟩
  have k0' : 0 ≤ k := by omega
  by_cases k4 : 4 ≤ k
  · obtain ⟨h1, h2⟩ := one_out (s := s) (k := k) (by omega)
    rw [h1, h2]
    clear h1 h2 g ok
    go_enter Try.func53, Try.ntmps53
    go_wp2_with fail
    go_ret2
    exact ⟨rfl, Fr.refl _ _⟩
  obtain ⟨n, rfl⟩ : ∃ n : Nat, k = (n : Int) := ⟨k.toNat, by omega⟩
  have hn : n < 4 := by omega
  have hnI : (n : Int) < 4 := by omega
  have c := (g.gm n hn).c
  clear g k4
  rcases ho : s.lk.op n with _ | _
  · obtain ⟨h1, h2⟩ := one_free ok hn ho
    rw [h1, h2]
    rw [ho] at c
    have ht : (L.give (L.take (L.clear s.lk) n) n).tr = [65, L.dig n, 82, L.dig n] := one_tr (st := L.clear s.lk) (by simp [L.clear])
    rw [ht]
    clear h1 h2 ok ht ho
    go_enter Try.func53, Try.ntmps53
    go_wp2_with fail
    refine (ev2_any 65 82 hn hn w).mono ?_
    rintro e w1 ⟨rfl, f1⟩
    go_wp2_with fail
    go_ret2
    exact ⟨rfl, f1⟩
  · obtain ⟨h1, h2⟩ := one_held hn ho
    rw [h1, h2]
    rw [ho] at c
    clear h1 h2 ok ho
    go_enter Try.func53, Try.ntmps53
    go_wp2_with fail
    go_ret2
    exact ⟨rfl, Fr.refl _ _⟩

theorem ocensus_any {w : World} {P : Nat} {s : Led} {v : Value} (g : GH w P s.bal s.un s.lk.op v) (ok : s.lk.Ok) (tot : sum4 s.bal = 400) :
    Calls Try.prog 56 #[.pointer (some ⟨P, 0, none⟩)] w fun e w' => e = .returned (.tuple #[ansV (cenA s).2.1 (cenA s).1 0 ⟨#[]⟩, .string (L.bs (cenS s).lk.tr)]) ∧ Kept s.lk (cenS s).lk ∧ Fr (fun _ => False) w w' := by
  have HG := hid g
  have HT := hid tot
  have CK0 := hid (ck_start ok)
  have hP : P < w.heap.size := g.lt
  clear g ok tot
  go_enter Try.func56, Try.ntmps56
  go_upto_region 1 with fail
  have BX := hid (Box.new w)
  have F0 := hid ((Fr.refl (fun _ => False) w).alloc (.cells #[.int .i64 0, .int .i64 0, .int .i64 0, .string ⟨#[]⟩] 51))
  generalize w.alloc (.cells #[.int .i64 0, .int .i64 0, .int .i64 0, .string ⟨#[]⟩] 51) = w0 at *
  obtain ⟨pa, hpa⟩ : ∃ pa, pa = w.heap.size := ⟨_, rfl⟩
  rw [← hpa] at BX hP ⊢
  have HPA := hid hpa
  clear hpa
  go_wp2_with fail
  go_loopw [4, 5] (fun tv i wr => ∃ (k : Nat) (lk : L.St), k ≤ 4 ∧ tv = .string (L.bs (cev k)) ∧ i = .int .i64 (k : Int) ∧ CK s k lk ∧ Fr (fun _ => False) w0 wr) (fun _ i _ => 4 - (intOf i).toNat)
  case atStart => exact ⟨0, _, by omega, rfl, rfl, CK0.out, Fr.refl _ _⟩
  case round =>
    clear CK0
    obtain ⟨k, lk, hk, rfl, rfl, ck, fr⟩ := hrel
    have CKk := hid ck
    have FR := hid fr
    have B1 := hid (BX.out.fr fr (fun h => h))
    have hk0 : (0 : Int) ≤ (k : Int) := by omega
    by_cases hlt : k < 4
    · have hltI : (k : Int) < 4 := by omega
      have c := ((HG.out.fr (F0.out.trans fr) (fun h => h)).gm k hlt).c
      clear ck fr
      rcases ho : s.lk.op k with _ | _
      · rw [ho] at c
        have CN := hid (CKk.out.next hlt ho)
        have hsz : (L.bs (cev k)).size ≤ 16 := by rw [bs_size, cev_len]; omega
        have hsz2 : (L.bs [65, L.dig k, 82, L.dig k]).size ≤ 4 := by rw [bs_size]; simp
        clear ho
        go_wp2_with fail
        refine (ev2_any 65 82 hlt hlt wr).mono ?_
        rintro e w1 ⟨rfl, f1⟩
        have F1 := hid (FR.out.trans f1)
        clear f1 c
        go_wp2_with fail
        exact ⟨⟨k + 1, _, by omega, by rw [L.bs_append]; rfl, by go_num, CN.out, F1.out⟩, by simp [intOf]; omega⟩
      · rw [ho] at c
        have HH := hid (CKk.out.held hlt ho)
        have c0 := B1.out.a0.c
        have c1 := B1.out.a1.c
        have c2 := B1.out.a2.c
        have c3 := B1.out.a3.c
        have x0 := B1.out.a0.f
        have x1 := B1.out.a1.f
        have x2 := B1.out.a2.f
        have x3 := B1.out.a3.f
        clear ho
        go_wp2_with fail
        refine retO2 Try.results56 rfl rfl rfl B1.out.a0.has B1.out.a1.has B1.out.a2.has B1.out.a3.has ?_
        have hs : (cenS s).lk = lk := by unfold cenS; rw [HH.out]
        rw [HH.out, hs, CKk.out.tr]
        exact ⟨rfl, CKk.out.kp, (F0.out.trans FR.out).then (in_fr pa _ _ (in_fr _ _ _ (in_fr _ _ _ (in_fr _ _ _ (Fr.refl _ _))))) (fun i hi e => by have := HPA.out; omega)⟩
    · obtain rfl : k = 4 := by omega
      have HH := hid (CKk.out.done HT.out)
      have hltI : ¬ ((4 : Nat) : Int) < 4 := by omega
      have c0 := B1.out.a0.c
      have c1 := B1.out.a1.c
      have c2 := B1.out.a2.c
      have c3 := B1.out.a3.c
      have x0 := B1.out.a0.f
      have x1 := B1.out.a1.f
      have x2 := B1.out.a2.f
      have x3 := B1.out.a3.f
      clear ck fr
      go_wp2_with fail
      refine retO2 Try.results56 rfl rfl rfl B1.out.a0.has B1.out.a1.has B1.out.a2.has B1.out.a3.has ?_
      have hs : (cenS s).lk = lk := by unfold cenS; rw [HH.out]
      rw [HH.out, hs, CKk.out.tr]
      exact ⟨rfl, CKk.out.kp, (F0.out.trans FR.out).then (in_fr pa _ _ (in_fr _ _ _ (in_fr _ _ _ (in_fr _ _ _ (Fr.refl _ _))))) (fun i hi e => by have := HPA.out; omega)⟩

end Go.Proofs.Qxb6500453a
