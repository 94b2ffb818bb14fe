/- The gate: Serve, whole. -/
import Derived.Test.Qxb6500452aGServe2
namespace Go.Proofs.Qxb6500452a
open Go Go.RowKit
set_option maxRecDepth 100000
set_option maxHeartbeats 1600000
set_option linter.unusedSimpArgs false
set_option linter.unusedVariables false

theorem decP_le {s : ByteArray} {q : Nat} (h : decP s = .error q) : q ≤ s.size := by
  have dl : ∀ p q, p ≤ s.size → digP s p = .error q → q ≤ s.size := fun p q hp e => by
    rcases digP_cases s p with ⟨_, h1⟩ | ⟨_, h1⟩ <;> rw [h1] at e <;> cases e
    exact hp
  have dk : ∀ p v p1, digP s p = .ok (v, p1) → p1 ≤ s.size := fun p v p1 e => by
    rcases digP_cases s p with ⟨hb, h1⟩ | ⟨_, h1⟩ <;> rw [h1] at e <;> cases e
    have := (dg_lt hb).1; omega
  have nle : ∀ k v p, p ≤ s.size → (numL s k v p).2 ≤ s.size := by
    intro k
    induction k with
    | zero => intro v p hp; exact hp
    | succ k ih =>
      intro v p hp
      unfold numL
      split
      · rename_i hd
        exact ih _ _ (by have := (dg_lt hd).1; omega)
      · exact hp
  have nl : ∀ p q, p ≤ s.size → numP s p = .error q → q ≤ s.size := fun p q hp e => by
    unfold numP at e
    split at e
    · cases e
    · cases e; exact hp
  have nk : ∀ p x, numP s p = .ok x → x.2 ≤ s.size := fun p x e => by
    unfold numP at e
    split at e
    · rename_i hd
      cases e
      exact nle 2 _ _ (by have := (dg_lt hd).1; omega)
    · cases e
  have ml : ∀ p q, p ≤ s.size → movP s p = .error q → q ≤ s.size := fun p q hp e => by
    unfold movP at e
    split at e
    · rename_i h1; cases e; exact dl p _ hp h1
    · rename_i x h1
      have hx := dk p x.1 x.2 h1
      split at e
      · rename_i h2; cases e; exact dl _ _ hx h2
      · rename_i y h2
        have hy := dk _ y.1 y.2 h2
        split at e
        · rename_i h3; cases e; exact nl _ _ hy h3
        · cases e
  have mk : ∀ p x, movP s p = .ok x → x.2 ≤ s.size := fun p x e => by
    unfold movP at e
    split at e
    · cases e
    · split at e
      · cases e
      · split at e
        · cases e
        · rename_i z h3
          cases e
          exact nk _ _ h3
  have ul : ∀ p q b, p ≤ s.size → mustP s p b = .error q → q ≤ s.size := fun p q b hp e => by
    unfold mustP at e
    split at e
    · cases e
    · cases e; exact hp
  have uk : ∀ p b x, mustP s p b = .ok x → x.2 ≤ s.size := fun p b x e => by
    unfold mustP at e
    split at e
    · rename_i h1; cases e; exact h1.1
    · cases e
  have ll : ∀ k p l q, p ≤ s.size → movsP s k p l = .error q → q ≤ s.size := by
    intro k
    induction k with
    | zero => intro p l q hp e; cases e; exact hp
    | succ k ih =>
      intro p l q hp e
      unfold movsP at e
      split at e
      · rename_i h1; cases e; exact ml p _ hp h1
      · rename_i x h1
        have hx := mk p x h1
        split at e
        · rename_i h2; cases e; exact ul _ _ _ hx h2
        · rename_i y h2
          have hy := uk _ _ y h2
          split at e
          · exact ih _ _ _ hy e
          · cases e
  have lk : ∀ k p l x, movsP s k p l = .ok x → x.2 ≤ s.size := by
    intro k
    induction k with
    | zero => intro p l x e; cases e
    | succ k ih =>
      intro p l x e
      unfold movsP at e
      split at e
      · cases e
      · rename_i y h1
        split at e
        · cases e
        · rename_i z h2
          split at e
          · exact ih _ _ _ e
          · cases e
            exact uk _ _ z h2
  have el : ∀ p q, endP s p = .error q → q ≤ s.size := fun p q e => by
    unfold endP at e
    split at e
    · rename_i h1; cases e; omega
    · cases e
  unfold decP at h
  split at h
  · rename_i q' h1
    unfold vbP at h1
    split at h1
    · cases h1
    · cases h1; cases h; omega
  · rename_i x h1
    have hx : x.2 ≤ s.size := by
      unfold vbP at h1
      split at h1
      · rename_i hz; cases h1; exact hz
      · cases h1
    split at h
    · split at h
      · rename_i h2; cases h; exact el _ _ h2
      · cases h
    split at h
    · split at h
      · rename_i h2; cases h; exact dl _ _ hx h2
      · split at h
        · rename_i h2; cases h; exact el _ _ h2
        · cases h
    split at h
    · split at h
      · rename_i h2; cases h; exact dl _ _ hx h2
      · rename_i y h2
        have hy := dk _ y.1 y.2 h2
        split at h
        · rename_i h3; cases h; exact dl _ _ hy h3
        · split at h
          · rename_i h2; cases h; exact el _ _ h2
          · cases h
    split at h
    · split at h
      · rename_i h2; cases h; exact ml _ _ hx h2
      · split at h
        · rename_i h2; cases h; exact el _ _ h2
        · cases h
    split at h
    · split at h
      · rename_i h2; cases h; exact ll _ _ _ _ hx h2
      · split at h
        · rename_i h2; cases h; exact el _ _ h2
        · cases h
    · cases h; omega

/-- A command that was decoded: its verb, and the digit of a name. -/
theorem decP_ok {s : ByteArray} {c : Cmd} (h : decP s = .ok c) : (c.verb = 65 ∨ c.verb = 66 ∨ c.verb = 78 ∨ c.verb = 83 ∨ c.verb = 84 ∨ c.verb = 88) ∧ (c.verb = 78 → 0 ≤ c.m.f ∧ c.m.f ≤ 9) := by
  unfold decP at h
  split at h
  · cases h
  · rename_i x h1
    split at h
    · rename_i hv
      split at h
      · cases h
      · cases h; exact ⟨.inl hv, fun e => by rw [hv] at e; cases e⟩
    split at h
    · rename_i hv
      split at h
      · cases h
      · rename_i y h2
        split at h
        · cases h
        · cases h
          refine ⟨by rcases hv with h | h; exact .inr (.inl h); exact .inr (.inr (.inl h)), fun _ => ?_⟩
          rcases digP_cases s x.2 with ⟨hb, h3⟩ | ⟨_, h3⟩
          · rw [h3] at h2
            cases h2
            exact dgV_le hb
          · rw [h3] at h2
            cases h2
    split at h
    · rename_i hv
      split at h
      · cases h
      · split at h
        · cases h
        · split at h
          · cases h
          · cases h; exact ⟨.inr (.inr (.inr (.inl hv))), fun e => by rw [hv] at e; cases e⟩
    split at h
    · rename_i hv
      split at h
      · cases h
      · split at h
        · cases h
        · cases h; exact ⟨.inr (.inr (.inr (.inr (.inl hv)))), fun e => by rw [hv] at e; cases e⟩
    split at h
    · rename_i hv
      split at h
      · cases h
      · split at h
        · cases h
        · cases h; exact ⟨.inr (.inr (.inr (.inr (.inr hv)))), fun e => by rw [hv] at e; cases e⟩
    · cases h

theorem run_any {w : World} {G : Nat} {b : LB} {s : Led} (h : LR w b s) (g0 : At w G 0 (.pointer (some ⟨b.D, 0, none⟩))) (hG : ¬ SL b G) {c : Cmd} {req : ByteArray} (hd : decP req = .ok c) {v : Value} {base : Nat} (ow : OwnM w base v c.ms) (hb : ∀ i, SL b i → i < base) :
    Calls Try.prog 34 #[.pointer (some ⟨G, 0, none⟩), .agg #[.int .u8 (c.verb.toNat : Int), .int .i64 c.m.f, .int .i64 c.m.t, .int .i64 c.m.a, v]] w fun e w' => RunPost (runP s c) e ∧ LR w' b (runS s c) ∧ Fr (SL b) w w' := by
  obtain ⟨hv, hn⟩ := decP_ok hd
  rcases hv with hv | hv | hv | hv | hv | hv
  · exact run_cen h g0 hG c hv v
  · exact run_bal h g0 hG c hv v
  · exact run_nam h g0 hG c hv (hn hv).1 (hn hv).2 v
  · by_cases hz : c.m.t = 0 ∧ acqE s c.m.f = 0
    · exact run_spz h g0 hG c hv hz v
    · exact run_spl h g0 hG c hv hz v
  · exact run_tr h g0 hG c hv v
  · exact run_bat h g0 hG c hv ow hb

theorem serve_any {w : World} {G : Nat} {b : LB} {s : Led} {c : Cts} (h : GT w G b s c) (req : ByteArray) :
    Calls Try.prog 19 #[.pointer (some ⟨G, 0, none⟩), .string req] w fun e w' => e = .returned (.tuple #[.string (srv s req).1, .int .i64 (srv s req).2.1]) ∧ GT w' G b (srv s req).2.2 (cntC c (srv s req).2.1) ∧ Fr (SG b G) w w' := by
  have H := hid h
  have HL := hid h.lt
  have hmf : ∀ (fn : Fn) (first cap : Array Value) (w : World), (Instr.makeFunc fn first cap).run Try.prog w = .ok (.func fn first cap) w := fun _ _ _ _ => rfl
  have F0 : Hid (Fr (fun _ => False) w (((w.alloc (.cells #[.pointer (some ⟨G, 0, none⟩)] 32)).alloc (.cells #[.string ⟨#[]⟩] 9)).alloc (.cells #[.int .i64 0] 34))) := (((Fr.refl _ _).alloc _).alloc _).alloc _
  have AG : Hid (At (((w.alloc (.cells #[.pointer (some ⟨G, 0, none⟩)] 32)).alloc (.cells #[.string ⟨#[]⟩] 9)).alloc (.cells #[.int .i64 0] 34)) w.heap.size 0 (.pointer (some ⟨G, 0, none⟩))) := ((At.new w _ _ rfl).alloc _).alloc _
  have AA : Hid (At (((w.alloc (.cells #[.pointer (some ⟨G, 0, none⟩)] 32)).alloc (.cells #[.string ⟨#[]⟩] 9)).alloc (.cells #[.int .i64 0] 34)) (w.heap.size + 1) 0 (.string ⟨#[]⟩)) := by
    have := (At.new (w.alloc (.cells #[.pointer (some ⟨G, 0, none⟩)] 32)) #[.string ⟨#[]⟩] 9 (o := 0) rfl).alloc (.cells #[.int .i64 0] 34)
    simp only [World.size_alloc] at this
    exact this
  have AE : Hid (At (((w.alloc (.cells #[.pointer (some ⟨G, 0, none⟩)] 32)).alloc (.cells #[.string ⟨#[]⟩] 9)).alloc (.cells #[.int .i64 0] 34)) (w.heap.size + 1 + 1) 0 (.int .i64 0)) := by
    have := At.new ((w.alloc (.cells #[.pointer (some ⟨G, 0, none⟩)] 32)).alloc (.cells #[.string ⟨#[]⟩] 9)) #[.int .i64 0] 34 (o := 0) rfl
    simp only [World.size_alloc] at this
    exact this
  have G0 := hid (H.out.fr F0.out (fun _ _ h => h))
  clear h
  by_cases hlen : 20 < req.size
  · have hlI : (20 : Int) < (req.size : Int) := by omega
    have HV : Hid (srv s req = (⟨#[]⟩, 1, s)) := by unfold Hid srv; rw [if_pos hlen]
    rw [HV.out]
    clear HV hlen
    simp only
    go_enter_defers Try.func19, Try.ntmps19
    go_upto_region 2 with fail
    generalize ((w.alloc (.cells #[.pointer (some ⟨G, 0, none⟩)] 32)).alloc (.cells #[.string ⟨#[]⟩] 9)).alloc (.cells #[.int .i64 0] 34) = w0 at *
    obtain ⟨pe, hpe⟩ : ∃ pe, pe = w.heap.size + 1 + 1 := ⟨_, rfl⟩
    rw [← hpe] at AE ⊢
    obtain ⟨pa, hpa⟩ : ∃ pa, pa = w.heap.size + 1 := ⟨_, rfl⟩
    rw [← hpa] at AA ⊢
    obtain ⟨pg, hpg⟩ : ∃ pg, pg = w.heap.size := ⟨_, rfl⟩
    rw [← hpg] at AG ⊢
    have HPS : Hid (pg = w.heap.size ∧ pa = w.heap.size + 1 ∧ pe = w.heap.size + 2) := ⟨hpg, hpa, by omega⟩
    have hpd : pa ≠ pe := by omega
    have HN : Hid ((∀ i, SG b G i → i ≠ pa) ∧ (∀ i, SG b G i → i ≠ pe) ∧ (∀ i, SG b G i → i ≠ pg)) := ⟨fun i c => by have := HL.out i c; omega, fun i c => by have := HL.out i c; omega, fun i c => by have := HL.out i c; omega⟩
    clear hpe hpa hpg
    have c1 := AA.out.c
    have x1 := AA.out.f
    have c2 := AE.out.c
    have x2 := AE.out.f
    go_wp2_with fail
    have ff : Fr (fun i => i = pa ∨ i = pe) w0 ((w0.setCell ⟨pa, 0, none⟩ (.string ⟨#[]⟩)).setCell ⟨pe, 0, none⟩ (.int .i64 1)) := ((Fr.refl (fun i => i = pa ∨ i = pe) w0).setCell (p := ⟨pa, 0, none⟩) (fun _ => .inl rfl) _).setCell (p := ⟨pe, 0, none⟩) (fun _ => .inr rfl) _
    refine leave_cnt (pg := pg) (pa := pa) (pe := pe) Try.results19 rfl rfl (G0.out.fr ff (fun i hi d => by rcases d with d | d; exact HN.out.1 i hi d; exact HN.out.2.1 i hi d)) (AG.out.fr ff (by have := HPS.out; omega)) ((AA.out.same _).other (by have := HPS.out; omega) _) ((AE.out.other (by have := HPS.out; omega) _).same _) (fun e => HN.out.1 G (.inr rfl) e.symm) (fun e => HN.out.2.1 G (.inr rfl) e.symm) ?_
    intro w' gt fr
    exact ⟨rfl, gt, ((F0.out.mono (fun _ _ h => h.elim)).then ff (fun i hi d => by have := HPS.out; omega)).trans (fr.mono (fun _ _ h => .inr h))⟩
  · have hlI : ¬ (20 : Int) < (req.size : Int) := by omega
    have hsz : req.size ≤ 20 := by omega
    rcases hdec : decP req with q | cm
    · have HV : Hid (srv s req = (atA q, 8, s)) := by unfold Hid srv; rw [if_neg hlen, hdec]
      have hq20 : q ≤ 20 := Nat.le_trans (decP_le hdec) hsz
      rw [HV.out]
      clear HV hlen
      simp only
      go_enter_defers Try.func19, Try.ntmps19
      go_upto_region 2 with fail
      generalize ((w.alloc (.cells #[.pointer (some ⟨G, 0, none⟩)] 32)).alloc (.cells #[.string ⟨#[]⟩] 9)).alloc (.cells #[.int .i64 0] 34) = w0 at *
      obtain ⟨pe, hpe⟩ : ∃ pe, pe = w.heap.size + 1 + 1 := ⟨_, rfl⟩
      rw [← hpe] at AE ⊢
      obtain ⟨pa, hpa⟩ : ∃ pa, pa = w.heap.size + 1 := ⟨_, rfl⟩
      rw [← hpa] at AA ⊢
      obtain ⟨pg, hpg⟩ : ∃ pg, pg = w.heap.size := ⟨_, rfl⟩
      rw [← hpg] at AG ⊢
      have HPS : Hid (pg = w.heap.size ∧ pa = w.heap.size + 1 ∧ pe = w.heap.size + 2) := ⟨hpg, hpa, by omega⟩
      have hpd : pa ≠ pe := by omega
      have HN : Hid ((∀ i, SG b G i → i ≠ pa) ∧ (∀ i, SG b G i → i ≠ pe) ∧ (∀ i, SG b G i → i ≠ pg)) := ⟨fun i c => by have := HL.out i c; omega, fun i c => by have := HL.out i c; omega, fun i c => by have := HL.out i c; omega⟩
      clear hpe hpa hpg
      go_wp2_with fail
      refine (decode_any hsz w0).mono ?_
      rintro e w1 ⟨hp1, f1⟩
      rw [hdec] at hp1
      obtain rfl : e = pan q := hp1
      unfold pan
      go_wp2_with fail
      refine leave_syn (AA.out.fr f1 (fun h => h)) (AE.out.fr f1 (fun h => h)) (by have := HPS.out; omega) hq20 ?_
      intro w2 a2 e2 f2
      refine leave_cnt Try.results19 rfl rfl ((G0.out.fr f1 (fun _ _ h => h)).fr f2 (fun i hi d => by rcases d with d | d; exact HN.out.1 i hi d; exact HN.out.2.1 i hi d)) ((AG.out.fr f1 (fun h => h)).fr f2 (by have := HPS.out; omega)) a2 e2 (fun e => HN.out.1 G (.inr rfl) e.symm) (fun e => HN.out.2.1 G (.inr rfl) e.symm) ?_
      intro w' gt fr
      exact ⟨rfl, gt, (((F0.out.trans f1).mono (fun _ _ h => h.elim)).then f2 (fun i hi d => by have := HPS.out; omega)).trans (fr.mono (fun _ _ h => .inr h))⟩
    · rcases hrun : runP s cm with _ | ⟨ra, re⟩
      · have HV : Hid (srv s req = (⟨#[]⟩, 9, runS s cm)) := by unfold Hid srv; rw [if_neg hlen, hdec]; simp only; rw [hrun]
        rw [HV.out]
        clear HV hlen
        simp only
        go_enter_defers Try.func19, Try.ntmps19
        go_upto_region 2 with fail
        generalize ((w.alloc (.cells #[.pointer (some ⟨G, 0, none⟩)] 32)).alloc (.cells #[.string ⟨#[]⟩] 9)).alloc (.cells #[.int .i64 0] 34) = w0 at *
        obtain ⟨pe, hpe⟩ : ∃ pe, pe = w.heap.size + 1 + 1 := ⟨_, rfl⟩
        rw [← hpe] at AE ⊢
        obtain ⟨pa, hpa⟩ : ∃ pa, pa = w.heap.size + 1 := ⟨_, rfl⟩
        rw [← hpa] at AA ⊢
        obtain ⟨pg, hpg⟩ : ∃ pg, pg = w.heap.size := ⟨_, rfl⟩
        rw [← hpg] at AG ⊢
        have HPS : Hid (pg = w.heap.size ∧ pa = w.heap.size + 1 ∧ pe = w.heap.size + 2) := ⟨hpg, hpa, by omega⟩
        have hpd : pa ≠ pe := by omega
        have HN : Hid ((∀ i, SG b G i → i ≠ pa) ∧ (∀ i, SG b G i → i ≠ pe) ∧ (∀ i, SG b G i → i ≠ pg)) := ⟨fun i c => by have := HL.out i c; omega, fun i c => by have := HL.out i c; omega, fun i c => by have := HL.out i c; omega⟩
        clear hpe hpa hpg
        go_upto_region 6 with (first | (go_at_call 33; refine (decode_any hsz w0).mono ?_; rintro e w1 ⟨hp1, f1⟩; rw [hdec] at hp1; obtain ⟨v, rfl, ow1⟩ := hp1; obtain ⟨xa, cap, hv, _, _⟩ := ow1.mvs; subst hv) | fail)
        have FB := (Fr.refl (fun _ => False) w1).alloc (.cells #[.int .u8 (cm.verb.toNat : Int), .int .i64 cm.m.f, .int .i64 cm.m.t, .int .i64 cm.m.a, .slice xa cm.ms.length cap] 59)
        have K2 : Hid (∀ x u, (#[.int .u8 (cm.verb.toNat : Int), .int .i64 cm.m.f, .int .i64 cm.m.t, .int .i64 cm.m.a, .slice xa cm.ms.length cap] : Array Value)[x]? = some u → At (w1.alloc (.cells #[.int .u8 (cm.verb.toNat : Int), .int .i64 cm.m.f, .int .i64 cm.m.t, .int .i64 cm.m.a, .slice xa cm.ms.length cap] 59)) w1.heap.size x u) := fun x u hu => At.new w1 _ _ hu
        have G2 := hid ((G0.out.fr f1 (fun _ _ h => h)).fr FB (fun _ _ h => h))
        have P2 := hid ((AG.out.fr f1 (fun h => h)).fr FB (fun h => h))
        have A2 := hid ((AA.out.fr f1 (fun h => h)).fr FB (fun h => h))
        have E2 := hid ((AE.out.fr f1 (fun h => h)).fr FB (fun h => h))
        have F2 := hid ((F0.out.trans f1).trans FB)
        have O2 := hid (ow1.fr FB (fun _ _ h => h))
        have HB2 : Hid (∀ i, SL b i → i < w0.heap.size + 1) := fun i c => by have := G0.out.lt i (.inl c); omega
        clear f1 FB ow1 G0 AG AA AE F0
        generalize w1.alloc (.cells #[.int .u8 (cm.verb.toNat : Int), .int .i64 cm.m.f, .int .i64 cm.m.t, .int .i64 cm.m.a, .slice xa cm.ms.length cap] 59) = w2 at *
        generalize w1.heap.size = p6 at *
        have k0 := (K2.out 0 _ rfl).c
        have k1 := (K2.out 1 _ rfl).c
        have k2 := (K2.out 2 _ rfl).c
        have k3 := (K2.out 3 _ rfl).c
        have k4 := (K2.out 4 _ rfl).c
        have gp := P2.out.c
        go_wp2_with fail
        refine (run_any G2.out.r G2.out.g0 G2.out.ng hdec O2.out HB2.out).mono ?_
        rintro e w3 ⟨hp3, r3, f3⟩
        rw [hrun] at hp3
        obtain ⟨t, x, older, ht, ho, rfl⟩ := hp3
        go_wp2_with fail
        have nS : ∀ i, w.heap.size ≤ i → ¬ SL b i := fun i hi c => by have := HL.out i (.inl c); omega
        have gt3 := (G2.out).led r3 f3
        refine leave_out (A2.out.fr f3 (nS _ (by have := HPS.out; omega))) (E2.out.fr f3 (nS _ (by have := HPS.out; omega))) (by have := HPS.out; omega) ht ho ?_
        intro w4 a4 e4 f4
        refine leave_cnt Try.results19 rfl rfl (gt3.fr f4 (fun i hi d => by rcases d with d | d; exact HN.out.1 i hi d; exact HN.out.2.1 i hi d)) ((P2.out.fr f3 (nS _ (by have := HPS.out; omega))).fr f4 (by have := HPS.out; omega)) a4 e4 (fun e => HN.out.1 G (.inr rfl) e.symm) (fun e => HN.out.2.1 G (.inr rfl) e.symm) ?_
        intro w' gt fr
        exact ⟨rfl, gt, (((F2.out.mono (fun _ _ h => h.elim)).trans (f3.mono (S' := SG b G) (fun _ _ h => .inl h))).then f4 (fun i hi d => by have := HPS.out; omega)).trans (fr.mono (fun _ _ h => .inr h))⟩
      · have HV : Hid (srv s req = (ra, re, runS s cm)) := by unfold Hid srv; rw [if_neg hlen, hdec]; simp only; rw [hrun]
        rw [HV.out]
        clear HV hlen
        simp only
        go_enter_defers Try.func19, Try.ntmps19
        go_upto_region 2 with fail
        generalize ((w.alloc (.cells #[.pointer (some ⟨G, 0, none⟩)] 32)).alloc (.cells #[.string ⟨#[]⟩] 9)).alloc (.cells #[.int .i64 0] 34) = w0 at *
        obtain ⟨pe, hpe⟩ : ∃ pe, pe = w.heap.size + 1 + 1 := ⟨_, rfl⟩
        rw [← hpe] at AE ⊢
        obtain ⟨pa, hpa⟩ : ∃ pa, pa = w.heap.size + 1 := ⟨_, rfl⟩
        rw [← hpa] at AA ⊢
        obtain ⟨pg, hpg⟩ : ∃ pg, pg = w.heap.size := ⟨_, rfl⟩
        rw [← hpg] at AG ⊢
        have HPS : Hid (pg = w.heap.size ∧ pa = w.heap.size + 1 ∧ pe = w.heap.size + 2) := ⟨hpg, hpa, by omega⟩
        have hpd : pa ≠ pe := by omega
        have HN : Hid ((∀ i, SG b G i → i ≠ pa) ∧ (∀ i, SG b G i → i ≠ pe) ∧ (∀ i, SG b G i → i ≠ pg)) := ⟨fun i c => by have := HL.out i c; omega, fun i c => by have := HL.out i c; omega, fun i c => by have := HL.out i c; omega⟩
        clear hpe hpa hpg
        go_upto_region 6 with (first | (go_at_call 33; refine (decode_any hsz w0).mono ?_; rintro e w1 ⟨hp1, f1⟩; rw [hdec] at hp1; obtain ⟨v, rfl, ow1⟩ := hp1; obtain ⟨xa, cap, hv, _, _⟩ := ow1.mvs; subst hv) | fail)
        have FB := (Fr.refl (fun _ => False) w1).alloc (.cells #[.int .u8 (cm.verb.toNat : Int), .int .i64 cm.m.f, .int .i64 cm.m.t, .int .i64 cm.m.a, .slice xa cm.ms.length cap] 59)
        have K2 : Hid (∀ x u, (#[.int .u8 (cm.verb.toNat : Int), .int .i64 cm.m.f, .int .i64 cm.m.t, .int .i64 cm.m.a, .slice xa cm.ms.length cap] : Array Value)[x]? = some u → At (w1.alloc (.cells #[.int .u8 (cm.verb.toNat : Int), .int .i64 cm.m.f, .int .i64 cm.m.t, .int .i64 cm.m.a, .slice xa cm.ms.length cap] 59)) w1.heap.size x u) := fun x u hu => At.new w1 _ _ hu
        have G2 := hid ((G0.out.fr f1 (fun _ _ h => h)).fr FB (fun _ _ h => h))
        have P2 := hid ((AG.out.fr f1 (fun h => h)).fr FB (fun h => h))
        have A2 := hid ((AA.out.fr f1 (fun h => h)).fr FB (fun h => h))
        have E2 := hid ((AE.out.fr f1 (fun h => h)).fr FB (fun h => h))
        have F2 := hid ((F0.out.trans f1).trans FB)
        have O2 := hid (ow1.fr FB (fun _ _ h => h))
        have HB2 : Hid (∀ i, SL b i → i < w0.heap.size + 1) := fun i c => by have := G0.out.lt i (.inl c); omega
        clear f1 FB ow1 G0 AG AA AE F0
        generalize w1.alloc (.cells #[.int .u8 (cm.verb.toNat : Int), .int .i64 cm.m.f, .int .i64 cm.m.t, .int .i64 cm.m.a, .slice xa cm.ms.length cap] 59) = w2 at *
        generalize w1.heap.size = p6 at *
        have k0 := (K2.out 0 _ rfl).c
        have k1 := (K2.out 1 _ rfl).c
        have k2 := (K2.out 2 _ rfl).c
        have k3 := (K2.out 3 _ rfl).c
        have k4 := (K2.out 4 _ rfl).c
        have gp := P2.out.c
        go_wp2_with fail
        refine (run_any G2.out.r G2.out.g0 G2.out.ng hdec O2.out HB2.out).mono ?_
        rintro e w3 ⟨hp3, r3, f3⟩
        rw [hrun] at hp3
        obtain rfl : e = .returned (.tuple #[.string ra, .int .i64 re]) := hp3
        have nS : ∀ i, w.heap.size ≤ i → ¬ SL b i := fun i hi c => by have := HL.out i (.inl c); omega
        have A3 := hid (A2.out.fr f3 (nS _ (by have := HPS.out; omega)))
        have E3 := hid (E2.out.fr f3 (nS _ (by have := HPS.out; omega)))
        have P3 := hid (P2.out.fr f3 (nS _ (by have := HPS.out; omega)))
        have G3 := hid (G2.out.led r3 f3)
        have F3 := hid ((F2.out.mono (fun _ _ h => h.elim)).trans (f3.mono (S' := SG b G) (fun _ _ h => .inl h)))
        clear r3 f3 nS
        have c1 := A3.out.c
        have x1 := A3.out.f
        have c2 := E3.out.c
        have x2 := E3.out.f
        go_wp2_with fail
        have ff : Fr (fun i => i = pa ∨ i = pe) w3 ((w3.setCell ⟨pa, 0, none⟩ (.string ra)).setCell ⟨pe, 0, none⟩ (.int .i64 re)) := ((Fr.refl (fun i => i = pa ∨ i = pe) w3).setCell (p := ⟨pa, 0, none⟩) (fun _ => .inl rfl) _).setCell (p := ⟨pe, 0, none⟩) (fun _ => .inr rfl) _
        refine leave_idle (leave_cnt (pg := pg) (pa := pa) (pe := pe) Try.results19 rfl rfl (G3.out.fr ff (fun i hi d => by rcases d with d | d; exact HN.out.1 i hi d; exact HN.out.2.1 i hi d)) (P3.out.fr ff (by have := HPS.out; omega)) ((A3.out.same _).other (by have := HPS.out; omega) _) ((E3.out.other (by have := HPS.out; omega) _).same _) (fun e => HN.out.1 G (.inr rfl) e.symm) (fun e => HN.out.2.1 G (.inr rfl) e.symm) ?_)
        intro w' gt fr
        exact ⟨rfl, gt, (F3.out.then ff (fun i hi d => by have := HPS.out; omega)).trans (fr.mono (fun _ _ h => .inr h))⟩

end Go.Proofs.Qxb6500452a
