/- The document's Reads. -/
import Derived.Test.YtpdelhcokcikaaaIV
set_option linter.unusedVariables false
set_option linter.unusedSimpArgs false
set_option linter.unnecessarySimpa false
set_option maxRecDepth 100000
namespace Go.Proofs.Ytpdelhcokcikaaa.M
open Go.Abs

/-- An array of ten bools. -/
def Arr (M : Mem) (a : Nat) (f : Nat → Bool) : Prop := M.get a = some ⟨((List.range 10).map f).map .bool, .fixed⟩
theorem Arr.congr {M : Mem} {a : Nat} {f g : Nat → Bool} (h : Arr M a f) (hfg : ∀ k, k < 10 → f k = g k) : Arr M a g := by
  unfold Arr at *
  rw [h]
  congr 3
  exact List.map_congr_left (fun k hk => hfg k (by simpa using hk))
theorem Arr.set {M : Mem} {a : Nat} {f : Nat → Bool} (h : Arr M a f) {j : Nat} (hj : j < 10) (v : Bool) : ∃ M', M.st a (0 + j * 1) [.bool v] = some M' ∧ Arr M' a (fun k => if k = j then v else f k) ∧ M'.n = M.n ∧ Mem.But (· = a) M M' := by
  obtain ⟨M', q1, q2, q3, q4⟩ := st_at (i := 0 + j * 1) (vs := [.bool v]) h (by simp; omega)
  refine ⟨M', q1, ?_, q3, q4⟩
  unfold Arr
  rw [q2, overL_one, ← List.map_set]
  congr 3
  apply List.ext_getElem?
  intro k
  rw [List.getElem?_set]
  by_cases e : 0 + j * 1 = k
  · have : j = k := by omega
    subst this
    rw [if_pos e, if_pos (by simp; omega)]
    simp [hj]
  · rw [if_neg e]
    by_cases hk : k < 10
    · have hne : ¬ k = j := by omega
      simp [hk, hne]
    · rw [List.getElem?_eq_none (by simp; omega), List.getElem?_eq_none (by simp; omega)]
theorem Arr.get {M : Mem} {a : Nat} {f : Nat → Bool} (h : Arr M a f) {j : Nat} (hj : j < 10) : M.ldB a (0 + j * 1) = some (f j) := by
  rw [ldB_at h]
  simp [hj, AVal.bool?]
def argsR (n : Int) : Int := cond (n == 1) 2 (cond (n == 8) 2 (cond (n == 2) 3 (cond (n == 5) 3 (cond (decide (n ≥ 16)) 3 1))))
theorem argsR_le (i : Int) : 1 ≤ argsR i ∧ argsR i ≤ 3 := by
  unfold argsR
  cases (i == 1) <;> cases (i == 8) <;> cases (i == 2) <;> cases (i == 5) <;> cases decide (i ≥ 16) <;> decide
section
variable {M : Mem} {op : Nat} {d s o i : Int}
theorem RArgs_C (n : Int) : C 36 [.int .i32 n] M = some (.int .i64 (argsR n), M) := by
  have hE := p36_0_eq C prog.meth n M
  simp only [p36_1_eq, p36_2_eq] at hE
  refine c36 (hE.trans ?_)
  unfold argsR
  cases (n == 1) <;> cases (n == 8) <;> cases (n == 2) <;> cases (n == 5) <;> cases decide (n ≥ 16) <;> rfl
theorem args_same {i : Int} (h : hpR i = true) : argsR i = argsI i := by
  unfold hpR wi at h
  unfold argsR argsI
  by_cases h1 : i = 1
  · subst h1; rfl
  by_cases h8 : i = 8
  · subst h8; rfl
  by_cases h2 : i = 2
  · subst h2; rfl
  by_cases h5 : i = 5
  · subst h5; rfl
  have e1 : (i == 1) = false := by simpa using h1
  have e8 : (i == 8) = false := by simpa using h8
  have e2 : (i == 2) = false := by simpa using h2
  have e5 : (i == 5) = false := by simpa using h5
  simp only [e1, e8, e2, e5, cond_false]
  by_cases h16 : i ≥ 16
  · have h24 : i < 24 := by
      have g1 : i ≥ 1 := by omega
      have g2 : ¬ i ≤ 8 := by omega
      simp [g1, g2, h16] at h
      omega
    simp [h16, h24]
  · have g3 : i ≥ 3 ∧ i ≤ 7 := by
      by_cases g1 : i ≥ 1
      · by_cases g2 : i ≤ 8
        · omega
        · simp [g1, g2, h16] at h
      · simp [g1, h16] at h
    simp [h16, g3.1, g3.2]
theorem ok_call {op : Nat} {d s o i : Int} (h : okB op d s o i = true) (h35 : op = 35) : hpR i = true := by
  subst h35
  unfold okB okS at h
  have : cls 35 = 13 := rfl
  rw [this] at h
  cases hp : hpR i with
  | true => rfl
  | false =>
    exfalso
    simp [immS, hp, hasD, hasS, offS] at h
theorem collect_loop {a : Nat} {f : Nat → Bool} : ∀ (d i : Nat) (M : Mem) (v : SlV) (xs : List Int), i + d = 10 → Arr M a f → a ∉ fpS v → OwnK .i64 M v xs → (v.2.1 = 0 → v.2.2 = .known 0) → v.2.1 ≤ i →
    ∃ M' v', p18_5 C prog.meth a v.1 v.2.1 v.2.2 i M = some (.sl v'.1 v'.2.1 v'.2.2, M') ∧ OwnK .i64 M' v' (xs ++ nums f i d) ∧ M.n ≤ M'.n ∧ Mem.But (· ∈ fpS v) M M' ∧ (∀ o ∈ fpS v', o ∈ fpS v ∨ M.n ≤ o) := by
  intro d
  induction d with
  | zero =>
    intro i M v xs hi ha hne ho hz hv
    have hE := p18_5_eq C prog.meth a v.1 v.2.1 v.2.2 i M
    have h1 : ¬ ((i : Int) < 10) := by omega
    simp only [h1, decide_false, cond_false] at hE
    exact ⟨M, v, hE, by simpa [nums] using ho, Nat.le_refl _, Mem.But.refl _ _, fun o h => .inl h⟩
  | succ d ih =>
    intro i M v xs hi ha hne ho hz hv
    have hE := p18_5_eq C prog.meth a v.1 v.2.1 v.2.2 i M
    have h1 : ((i : Int) < 10) := by omega
    have h0 : (0 : Int) ≤ (i : Int) := by omega
    have h2 : Nat.blt i 10 = true := Mem.blt_iff.2 (by omega)
    have hw : IntKind.wrap .i64 ((i : Int) + 1) = ((i + 1 : Nat) : Int) := by rw [wrap_i64 (by omega) (by omega)]; rfl
    simp only [h1, h0, h2, decide_true, cond_true, Int.toNat_natCast, ha.get (show i < 10 by omega), Option.bind_some, hw] at hE
    rw [nums_succ]
    cases hbit : f i with
    | false =>
      rw [hbit, cond_false] at hE
      obtain ⟨M', v', q1, q2, q3, q4, q5⟩ := ih (i + 1) M v xs (by omega) ha hne ho hz (by omega)
      exact ⟨M', v', hE.trans q1, by simpa using q2, q3, q4, q5⟩
    | true =>
      rw [hbit, cond_true] at hE
      obtain ⟨M2, k1, k2, k3, k4⟩ := ho.push (bytes := 8) (i : Int) hz (by omega)
      simp only [k1] at hE
      have hal := Mem.get_lt ha
      have hf : fpS ((some (M.n + 1, 0), v.2.1 + 1, .unk 0) : SlV) = [M.n + 1] := fpS_own rfl (by simp)
      obtain ⟨M', v', q1, q2, q3, q4, q5⟩ := ih (i + 1) M2 (some (M.n + 1, 0), v.2.1 + 1, .unk 0) _ (by omega) ((k4.2 a hal hne).trans ha) (by rw [hf]; simp; omega) k2 (fun h => by simp at h) (by simp; omega)
      rw [hf] at q4 q5
      refine ⟨M', v', hE.trans q1, by simpa using q2, by omega, ⟨by omega, fun q hq hn => ?_⟩, fun q hq => ?_⟩
      · rw [q4.2 q (by omega) (by simp; omega), k4.2 q hq hn]
      · rcases q5 q hq with h | h
        · simp at h; omega
        · omega
/-- The registers of a call. -/
theorem args_loop {a b : Nat} {A : Int} {cells : List AVal} (hA : 0 ≤ A ∧ A ≤ 9) (hc1 : cells[0]? = some (.int .u8 35)) (hc2 : cells[4]? = some (.int .i32 i)) (hR : argsR i = A) :
    ∀ (d j : Nat) (M : Mem) (f : Nat → Bool), (j : Int) + d = A + 1 → 1 ≤ j → M.get b = some ⟨cells, .fixed⟩ → b ≠ a → Arr M a f →
    ∃ M' g, p18_3 C prog.meth b a j M = p18_5 C prog.meth a none 0 (.known 0) 0 M' ∧ Arr M' a g ∧ (∀ k, k < 10 → g k = (f k || (decide (j ≤ k) && decide ((k : Int) ≤ A)))) ∧ M'.n = M.n ∧ Mem.But (· = a) M M' := by
  intro d
  induction d with
  | zero =>
    intro j M f hj hj1 hb hne ha
    have hE := p18_3_eq C prog.meth b a j M
    have h1 : ¬ ((j : Int) ≤ A) := by omega
    simp only [ldI_at hb, hc1, hc2, Option.bind_some, int?_int, RArgs_C, hR, h1, Option.bind_some, List.getElem?_cons_zero, List.getElem?_cons_succ, int?_int, AVal.bool?, AVal.ptr?, AVal.sl?, AVal.tup?, AVal.agg?, AVal.ifc?, AVal.fn?, AVal.str?, List.head?_cons, List.tail_cons, List.isEmpty_nil, cond_true, cond_false, Option.isNone_some, Option.isNone_none, Bool.not_true, Bool.not_false, decide_true, decide_false, beq_self_eq_true, bne_self_eq_false, Int.reduceBEq, Int.reduceBNe, Int.cast_ofNat_Int] at hE
    refine ⟨M, f, hE, ha, fun k hk => ?_, rfl, Mem.But.refl _ _⟩
    by_cases h2 : j ≤ k
    · have : ¬ ((k : Int) ≤ A) := by omega
      simp [this]
    · simp [h2]
  | succ d ih =>
    intro j M f hj hj1 hb hne ha
    have hE := p18_3_eq C prog.meth b a j M
    have hE4 := p18_4_eq C prog.meth b a j M
    have h1 : ((j : Int) ≤ A) := by omega
    have h0 : (0 : Int) ≤ (j : Int) := by omega
    have h2 : Nat.blt j 10 = true := Mem.blt_iff.2 (by omega)
    have hw : IntKind.wrap .i64 ((j : Int) + 1) = ((j + 1 : Nat) : Int) := by rw [wrap_i64 (by omega) (by omega)]; rfl
    obtain ⟨M2, s1, s2, s3, s4⟩ := ha.set (show j < 10 by omega) true
    simp only [ldI_at hb, hc1, hc2, Option.bind_some, int?_int, RArgs_C, hR, h1, Option.bind_some, List.getElem?_cons_zero, List.getElem?_cons_succ, int?_int, AVal.bool?, AVal.ptr?, AVal.sl?, AVal.tup?, AVal.agg?, AVal.ifc?, AVal.fn?, AVal.str?, List.head?_cons, List.tail_cons, List.isEmpty_nil, cond_true, cond_false, Option.isNone_some, Option.isNone_none, Bool.not_true, Bool.not_false, decide_true, decide_false, beq_self_eq_true, bne_self_eq_false, Int.reduceBEq, Int.reduceBNe, Int.cast_ofNat_Int] at hE
    simp only [h0, h2, decide_true, cond_true, Int.toNat_natCast, s1, Option.bind_some, hw] at hE4
    obtain ⟨M', g, q1, q2, q3, q4, q5⟩ := ih (j + 1) M2 _ (by omega) (by omega) (s4.get hb hne) hne s2
    refine ⟨M', g, hE.trans (hE4.trans q1), q2, fun k hk => ?_, by omega, s4.trans q5 (fun _ _ h => h)⟩
    rw [q3 k hk]
    by_cases e : k = j
    · subst e
      simp [h1]
    · rw [if_neg e]
      congr 1
      by_cases h3 : j + 1 ≤ k
      · have : j ≤ k := by omega
        simp [h3, this]
      · have : ¬ j ≤ k := by omega
        simp [h3, this]
theorem RReads_C (h : InsnR op d s o i) : ∃ M' v, C 18 [.agg [.int .u8 (op : Int), .int .u8 d, .int .u8 s, .int .i16 o, .int .i32 i]] M = some (.sl v.1 v.2.1 v.2.2, M') ∧ M.Upto M' ∧ OwnK .i64 M' v (regs op d s o i) ∧ (∀ o ∈ fpS v, M.n ≤ o) := by
  have hE := p18_0_eq C prog.meth op d s o i M
  obtain ⟨M1, e1, g1, u1, n1⟩ := alloc_at M ⟨[.int .u8 (op : Int), .int .u8 d, .int .u8 s, .int .i16 o, .int .i32 i], .fixed⟩
  rw [e1] at hE
  obtain ⟨Mc, c1, _⟩ := RCheck_C (M := Mem.empty) h
  simp only [ldI_at g1, Option.bind_some, List.getElem?_cons_zero, List.getElem?_cons_succ, int?_int, AVal.bool?, AVal.ptr?, AVal.sl?, AVal.tup?, AVal.agg?, AVal.ifc?, AVal.fn?, AVal.str?, List.head?_cons, List.tail_cons, List.isEmpty_nil, cond_true, cond_false, Option.isNone_some, Option.isNone_none, Bool.not_true, Bool.not_false, decide_true, decide_false, beq_self_eq_true, bne_self_eq_false, Int.reduceBEq, Int.reduceBNe, Int.cast_ofNat_Int, c1] at hE
  unfold regs
  cases hok : okB op d s o i with
  | false =>
    have e0 : (errI false != 0) = true := rfl
    rw [hok] at hE
    simp only [e0, cond_true] at hE
    exact ⟨M1, (none, 0, .known 0), c18 hE, u1, OwnK.nil _ _, by simp [fpS]⟩
  | true =>
    have e0 : (errI true != 0) = false := rfl
    rw [hok] at hE
    have hsm := okB_small hok
    have hd0 := h.d
    have hs0 := h.s
    obtain ⟨M2, e2, g2, u2, n2⟩ := alloc_at M1 ⟨replZ [.bool false] 10, .fixed⟩
    have ha : Arr M2 M1.n (fun _ => false) := g2
    have g1' := u2.get g1
    have hz := clsS_size op
    obtain ⟨sn, hsn⟩ : ∃ n : Nat, s = (n : Int) := ⟨s.toNat, by omega⟩
    obtain ⟨dn, hdn⟩ : ∃ n : Nat, d = (n : Int) := ⟨d.toNat, by omega⟩
    subst hsn hdn
    have hs9 : Nat.blt sn 10 = true := Mem.blt_iff.2 (by omega)
    have hd9 : Nat.blt dn 10 = true := Mem.blt_iff.2 (by omega)
    have hsz : (0 : Int) ≤ (sn : Int) := by omega
    have hdz : (0 : Int) ≤ (dn : Int) := by omega
    have hH : hasB (clsS (cls op)) 115 = hasS (cls op) ∧ hasB (clsS (cls op)) 100 = hasD (cls op) := by
      have hc := cls_lt op
      generalize cls op = c at hc
      have : c = 0 ∨ c = 1 ∨ c = 2 ∨ c = 3 ∨ c = 4 ∨ c = 5 ∨ c = 6 ∨ c = 7 ∨ c = 8 ∨ c = 9 ∨ c = 10 ∨ c = 11 ∨ c = 12 ∨ c = 13 := by omega
      rcases this with rfl | rfl | rfl | rfl | rfl | rfl | rfl | rfl | rfl | rfl | rfl | rfl | rfl | rfl <;> exact ⟨rfl, rfl⟩
    obtain ⟨M3, s3, a3, n3, b3⟩ := ha.set (show sn < 10 by omega) (hasS (cls op))
    have hne : M.n ≠ M1.n := by omega
    have g3 := b3.get g1' hne
    obtain ⟨M4, s4, a4, n4, b4⟩ := a3.set (show dn < 10 by omega) true
    simp only [e0, Row_C, Has_C _ hz, hH, Option.bind_some, List.getElem?_cons_zero, List.getElem?_cons_succ, int?_int, AVal.bool?, AVal.ptr?, AVal.sl?, AVal.tup?, AVal.agg?, AVal.ifc?, AVal.fn?, AVal.str?, List.head?_cons, List.tail_cons, List.isEmpty_nil, cond_true, cond_false, Option.isNone_some, Option.isNone_none, Bool.not_true, Bool.not_false, decide_true, decide_false, beq_self_eq_true, bne_self_eq_false, Int.reduceBEq, Int.reduceBNe, Int.cast_ofNat_Int, e2, ldI_at g1', hsz, Int.toNat_natCast, hs9, s3, ldI_at g3, hdz, hd9, s4] at hE
    -- behind the registers that are named
    have stage1 : ∃ M5 f, p18_0 C prog.meth op dn sn o i M = p18_1 C prog.meth M.n M1.n M5 ∧ Arr M5 M1.n f ∧ (∀ k, k < 10 → f k = ((hasS (cls op) && decide ((sn : Int) = k)) || (hasD (cls op) && !setsOp op && decide ((dn : Int) = k)))) ∧ M5.n = M2.n ∧ Mem.But (· = M1.n) M2 M5 := by
      have fS : ∀ k, (if k = sn then hasS (cls op) else false) = (hasS (cls op) && decide ((sn : Int) = k)) := fun k => by
        by_cases e : k = sn
        · subst e; simp
        · have : ¬ ((sn : Int) = k) := by omega
          simp [e, this]
      have no : (hasD (cls op) && !setsOp op) = false → p18_0 C prog.meth op dn sn o i M = p18_1 C prog.meth M.n M1.n M3 → _ := fun hd' hq => (⟨M3, _, hq, a3, fun k hk => by rw [hd', fS]; simp, n3, b3⟩ : ∃ M5 f, p18_0 C prog.meth op dn sn o i M = p18_1 C prog.meth M.n M1.n M5 ∧ Arr M5 M1.n f ∧ (∀ k, k < 10 → f k = ((hasS (cls op) && decide ((sn : Int) = k)) || (hasD (cls op) && !setsOp op && decide ((dn : Int) = k)))) ∧ M5.n = M2.n ∧ Mem.But (· = M1.n) M2 M5)
      by_cases hset : setsOp op = true
      · refine no (by rw [hset]; simp) (hE.trans ?_)
        unfold setsOp at hset
        by_cases h1 : op = 1
        · subst h1; rfl
        by_cases h2 : op = 2
        · subst h2; rfl
        have e1 : ((op : Int) == 1) = false := by simp; omega
        have e2 : ((op : Int) == 2) = false := by simp; omega
        by_cases h14 : 14 ≤ op ∧ op ≤ 18
        · have e3 : (op : Int) ≥ 14 := by omega
          have e4 : (op : Int) ≤ 18 := by omega
          simp only [e1, e2, e3, e4, decide_true, cond_true, cond_false]
          cases hasD (cls op) <;> rfl
        · have h21 : op = 21 := by
            rw [Abs.beq_false h1, Abs.beq_false h2] at hset
            have : (Nat.ble 14 op && Nat.ble op 18) = false := by
              cases hb : (Nat.ble 14 op && Nat.ble op 18) with
              | false => rfl
              | true =>
                simp only [Bool.and_eq_true] at hb
                exact absurd ⟨ble_iff.1 hb.1, ble_iff.1 hb.2⟩ h14
            rw [this] at hset
            exact Nat.eq_of_beq_eq_true hset
          subst h21
          rfl
      · have hset : setsOp op = false := by simpa using hset
        have h1 : op ≠ 1 := by rintro rfl; cases hset
        have h2 : op ≠ 2 := by rintro rfl; cases hset
        have h21 : op ≠ 21 := by rintro rfl; cases hset
        have h14 : ¬ (14 ≤ op ∧ op ≤ 18) := by
          rintro ⟨a, b⟩
          unfold setsOp at hset
          rw [Abs.beq_false h1, Abs.beq_false h2, ble_iff.2 a, ble_iff.2 b] at hset
          cases hset
        have e1 : ((op : Int) == 1) = false := by simp; omega
        have e2 : ((op : Int) == 2) = false := by simp; omega
        have e21 : ((op : Int) == 21) = false := by simp; omega
        simp only [e1, e2, e21, cond_false, Bool.not_false, cond_true] at hE
        have hE' : p18_0 C prog.meth op dn sn o i M = cond (hasD (cls op)) (p18_1 C prog.meth M.n M1.n M4) (p18_1 C prog.meth M.n M1.n M3) := by
          rw [hE]
          by_cases e3 : (op : Int) ≥ 14
          · have e4 : ¬ (op : Int) ≤ 18 := by omega
            simp only [e3, e4, decide_true, decide_false, cond_true, cond_false]
          · simp only [e3, decide_false, cond_false]
        cases hD : hasD (cls op) with
        | false =>
          rw [hD, cond_false] at hE'
          have := no (by rw [hD]; rfl) hE'
          rwa [hD] at this
        | true =>
          rw [hD, cond_true] at hE'
          refine ⟨M4, _, hE', a4, fun k hk => ?_, by omega, b3.trans b4 (fun _ _ h => h)⟩
          rw [hset, fS]
          by_cases e : k = dn
          · subst e; simp
          · have : ¬ ((dn : Int) = k) := by omega
            simp [e, this]
    obtain ⟨M5, f5, q5, a5, hf5, n5, b5⟩ := stage1
    have g5 : M5.get M.n = _ := b5.get g1' hne
    -- 36: an exit
    have stage2 : ∃ M6 f, p18_1 C prog.meth M.n M1.n M5 = p18_3 C prog.meth M.n M1.n 1 M6 ∧ Arr M6 M1.n f ∧ (∀ k, k < 10 → f k = (f5 k || (Nat.beq op 36 && Nat.beq k 0))) ∧ M6.n = M2.n ∧ Mem.But (· = M1.n) M2 M6 := by
      have hE1 := p18_1_eq C prog.meth M.n M1.n M5
      obtain ⟨M6, s6, a6, n6, b6⟩ := a5.set (show 0 < 10 by omega) true
      have b36 : ((op : Int) == 36) = Nat.beq op 36 := beqN op 36
      simp only [ldI_at g5, Option.bind_some, List.getElem?_cons_zero, List.getElem?_cons_succ, int?_int, AVal.bool?, AVal.ptr?, AVal.sl?, AVal.tup?, AVal.agg?, AVal.ifc?, AVal.fn?, AVal.str?, List.head?_cons, List.tail_cons, List.isEmpty_nil, cond_true, cond_false, Option.isNone_some, Option.isNone_none, Bool.not_true, Bool.not_false, decide_true, decide_false, beq_self_eq_true, bne_self_eq_false, Int.reduceBEq, Int.reduceBNe, Int.cast_ofNat_Int, b36, s6, p18_2_eq] at hE1
      cases h36 : Nat.beq op 36 with
      | true =>
        rw [h36, cond_true] at hE1
        refine ⟨M6, _, hE1, a6, fun k hk => ?_, by omega, b5.trans b6 (fun _ _ h => h)⟩
        by_cases e : k = 0
        · subst e; simp
        · rw [if_neg e, Abs.beq_false e]; simp
      | false =>
        rw [h36, cond_false] at hE1
        exact ⟨M5, f5, hE1, a5, fun k hk => by simp, by omega, b5⟩
    obtain ⟨M6, f6, q6, a6, hf6, n6, b6⟩ := stage2
    have g6 : M6.get M.n = _ := b6.get g1' hne
    have stage3 : ∃ M7 f, p18_3 C prog.meth M.n M1.n 1 M6 = p18_5 C prog.meth M1.n none 0 (.known 0) 0 M7 ∧ Arr M7 M1.n f ∧ (∀ k, k < 10 → f k = (f6 k || (Nat.beq op 35 && decide (1 ≤ k) && decide ((k : Int) ≤ argsI i)))) ∧ M7.n = M2.n ∧ Mem.But (· = M1.n) M2 M7 := by
      cases h35 : Nat.beq op 35 with
      | true =>
        have hop : op = 35 := Nat.eq_of_beq_eq_true h35
        have hA := args_same (ok_call hok hop)
        have ha1 := argsR_le i
        subst hop
        obtain ⟨M7, g, q1, q2, q3, q4, q5⟩ := args_loop (A := argsI i) (i := i) (by omega) (by rfl) (by rfl) hA (argsI i).toNat 1 M6 f6 (by omega) (Nat.le_refl _) g6 hne a6
        exact ⟨M7, g, q1, q2, fun k hk => by rw [q3 k hk]; simp, by omega, b6.trans q5 (fun _ _ h => h)⟩
      | false =>
        have hE3 := p18_3_eq C prog.meth M.n M1.n 1 M6
        have b35 : ((op : Int) == 35) = Nat.beq op 35 := beqN op 35
        simp only [ldI_at g6, Option.bind_some, List.getElem?_cons_zero, List.getElem?_cons_succ, int?_int, AVal.bool?, AVal.ptr?, AVal.sl?, AVal.tup?, AVal.agg?, AVal.ifc?, AVal.fn?, AVal.str?, List.head?_cons, List.tail_cons, List.isEmpty_nil, cond_true, cond_false, Option.isNone_some, Option.isNone_none, Bool.not_true, Bool.not_false, decide_true, decide_false, beq_self_eq_true, bne_self_eq_false, Int.reduceBEq, Int.reduceBNe, Int.cast_ofNat_Int, b35, h35] at hE3
        exact ⟨M6, f6, hE3, a6, fun k hk => by simp, by omega, b6⟩
    obtain ⟨M7, f7, q7, a7, hf7, n7, b7⟩ := stage3
    obtain ⟨M8, v8, q1, q2, q3, q4, q5'⟩ := collect_loop 10 0 M7 (none, 0, .known 0) [] (by omega) a7 (by simp [fpS]) (OwnK.nil _ _) (fun _ => rfl) (by simp)
    have hfz : fpS ((none, 0, .known 0) : SlV) = [] := rfl
    rw [hfz] at q4 q5'
    refine ⟨M8, v8, c18 (q5.trans (q6.trans (q7.trans q1))), ⟨by omega, fun x hx => ?_⟩, ?_, fun x hx => ?_⟩
    · rw [q4.2 x (by omega) (by simp), b7.2 x (by omega) (by omega), u2.2 x (by omega), u1.2 x hx]
    · rw [List.nil_append] at q2
      rw [nums_congr 10 0 (g := rdB op dn sn i) (fun k _ hk => by rw [hf7 k (by omega), hf6 k (by omega), hf5 k (by omega)]; rfl)] at q2
      exact q2
    · rcases q5' x hx with h1 | h1
      · simp at h1
      · omega
end
end Go.Proofs.Ytpdelhcokcikaaa.M
