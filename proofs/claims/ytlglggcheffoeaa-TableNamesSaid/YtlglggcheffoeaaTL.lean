/- TableMakes, TableLast, TableOrder, TableNames. -/
import Derived.Test.YtlglggcheffoeaaTQ
set_option linter.unusedVariables false
set_option linter.unusedSimpArgs false
set_option linter.unnecessarySimpa false
set_option maxRecDepth 100000
namespace Go.Proofs.Ytlglggcheffoeaa.M
open Go.Abs Go.RowKit

theorem Dat.wr1 {M : Mem} {o : Nat} {L1 L2 : List Pr} {x : Pr} (h : Dat o M (L1 ++ x :: L2)) (k : Int) {i : Nat} (hi : i = L1.length) : ∃ M', M.st o (i * 2) [.int .u64 k] = some M' ∧ Dat o M' (L1 ++ (k, x.2) :: L2) ∧ M'.n = M.n ∧ Mem.But (· = o) M M' := by
  subst hi
  have hl : L1.length * 2 + 1 ≤ ((L1 ++ x :: L2).flatMap encP).length := by rw [flatMap_length encP2]; simp; omega
  have s1 := st_grow (i := L1.length * 2) (vs := [.int .u64 k]) h hl
  have e : overL ((L1 ++ x :: L2).flatMap encP) (L1.length * 2) [.int .u64 k] = (L1 ++ (k, x.2) :: L2).flatMap encP := by
    rw [overL_one, List.flatMap_append, List.flatMap_append, ← flatMap_length encP2 L1, List.set_append_right _ _ (Nat.le_refl _), Nat.sub_self]
    rfl
  rw [e] at s1
  exact ⟨_, s1, get_put_self (Mem.get_lt h), rfl, Mem.But.put _ _ _⟩
theorem split_at {L : List Pr} {i : Nat} (h : i < L.length) : ∃ L1 x L2, L = L1 ++ x :: L2 ∧ L1.length = i := ⟨L.take i, L[i], L.drop (i + 1), by rw [← List.drop_eq_getElem_cons, List.take_append_drop], by simp; omega⟩
/-- The keys of a table are changed. -/
theorem makes_turn {x0 x3 x6 x8 : Option (Nat × Nat)} {l0 l3 l6 l8 : Nat} {c0 c3 c6 c8 : Cap} {o n : Nat} (hn : n < 2 ^ 40) : ∀ (d i : Nat) (M : Mem) (L : List Pr), i + d = n → L.length = n → Dat o M L →
    ∃ M', p4_2 C prog.meth x0 l0 c0 x3 l3 c3 (some (o, 0)) n (.unk 0) x6 l6 c6 x8 l8 c8 (i : Int) M = p4_2 C prog.meth x0 l0 c0 x3 l3 c3 (some (o, 0)) n (.unk 0) x6 l6 c6 x8 l8 c8 (n : Int) M' ∧ Mem.But (· = o) M M' := by
  intro d
  induction d with
  | zero =>
    intro i M L hi hL hd
    obtain rfl : i = n := by omega
    exact ⟨M, rfl, Mem.But.refl _ _⟩
  | succ d ih =>
    intro i M L hi hL hd
    have hE := p4_2_eq C prog.meth x0 l0 c0 x3 l3 c3 (some (o, 0)) n (.unk 0) x6 l6 c6 x8 l8 c8 (i : Int) M
    obtain ⟨L1, x, L2, rfl, h1⟩ := split_at (show i < L.length by omega)
    have q : ((i : Int) < (n : Int)) := by omega
    have k0 : (0 : Int) ≤ (i : Int) := by omega
    have k1 : Nat.blt i n = true := Mem.blt_iff.2 (by omega)
    have hw : IntKind.wrap .i64 ((i : Int) + 1) = ((i + 1 : Nat) : Int) := by rw [wrap_i64 (by omega) (by omega)]; rfl
    have hsp : slPtr (some (o, 0)) (.unk 0) = some (o, 0) := rfl
    have r := hd.rdA h1.symm
    obtain ⟨M1, s1, d1, n1, b1⟩ := hd.wr1 (IntKind.wrap .u64 ((BitVec.ofInt (IntKind.bits .u64) x.1 ^^^ BitVec.ofInt (IntKind.bits .u64) 1).toNat)) h1.symm
    simp only [Option.bind_some, List.getElem?_cons_zero, List.getElem?_cons_succ, int?_int, AVal.bool?, AVal.ptr?, AVal.sl?, AVal.tup?, AVal.agg?, AVal.ifc?, AVal.fn?, AVal.str?, List.head?_cons, List.tail_cons, List.isEmpty_nil, cond_true, cond_false, Option.isNone_some, Option.isNone_none, Bool.not_true, Bool.not_false, decide_true, decide_false, beq_self_eq_true, bne_self_eq_false, Int.reduceBEq, Int.reduceBNe, Int.cast_ofNat_Int, q, k0, k1, Int.toNat_natCast, hsp, Nat.zero_add, Nat.add_zero, r.1, s1, hw] at hE
    obtain ⟨M', t1, t2⟩ := ih (i + 1) M1 _ (by omega) (by simp at hL ⊢; omega) d1
    exact ⟨M', hE.trans t1, b1.trans t2 (fun _ _ h => h)⟩
section
variable {M : Mem} {a : Option (Nat × Nat)} {l : Nat} {c : Cap} {xs : List Pr}
theorem TableMakes_C (h : Sl M 2 encP a l c xs) (hl : l ≤ 2 ^ 43) : ∃ M', C 4 [.sl a l c] M = some (.bool true, M') ∧ M.Upto M' := by
  have hE := p4_0_eq C prog.meth a l c M
  have hxl := h.2
  obtain ⟨M1, a2, c2, e1, u1, r1, f1⟩ := Copy_C h hl
  have h1 := h.upto encP2 (by omega) u1
  obtain ⟨Mw, cw⟩ := awake19_C
  have n1 := u1.1
  rw [e1, Option.bind_some] at hE
  simp only [Option.bind_some, List.getElem?_cons_zero, List.getElem?_cons_succ, int?_int, AVal.bool?, AVal.ptr?, AVal.sl?, AVal.tup?, AVal.agg?, AVal.ifc?, AVal.fn?, AVal.str?, List.head?_cons, List.tail_cons, List.isEmpty_nil, cond_true, cond_false, Option.isNone_some, Option.isNone_none, Bool.not_true, Bool.not_false, decide_true, decide_false, beq_self_eq_true, bne_self_eq_false, Int.reduceBEq, Int.reduceBNe, Int.cast_ofNat_Int] at hE
  -- what is made: twice, and the document's
  have go : ∃ (M2 M3 M4 : Mem) (v w z : SlV) (T : List Pr) (e : Int), C 15 [.sl a2 l c2] M1 = some (.tup [.sl v.1 v.2.1 v.2.2, .int .i64 e], M2) ∧ C 15 [.sl a2 l c2] M2 = some (.tup [.sl w.1 w.2.1 w.2.2, .int .i64 e], M3) ∧ C 16 [.sl a l c] M3 = some (.tup [.sl z.1 z.2.1 z.2.2, .int .i64 e], M4) ∧ M1.Upto M2 ∧ M2.Upto M3 ∧ M3.Upto M4 ∧ OwnT M1.n M2 v T ∧ OwnT M2.n M3 w T ∧ OwnT M3.n M4 z T ∧ T.length ≤ 64 := by
    by_cases h64 : l ≤ 64
    · obtain ⟨M2, v, T, k1, k2, k3, k4, k5⟩ := Of_C r1.sl h64
      have r2 := r1.upto encP2 (by omega) k2
      obtain ⟨M3, w, T2, m1, m2, m3, m4, m5⟩ := Of_C r2.sl h64
      obtain ⟨M4, z, T3, w1, w2, w3, w4⟩ := ROf_C (h1.upto encP2 (by omega) (k2.trans m2)) h64
      rw [← k4.uniq m4] at m3
      rw [← k4.uniq w4] at w3
      exact ⟨M2, M3, M4, v, w, z, T, 0, k1, m1, w1, k2, m2, w2, k3, m3, w3, by omega⟩
    · exact ⟨M1, M1, M1, (none, 0, .known 0), (none, 0, .known 0), (none, 0, .known 0), [], 3, Of0_C h64, Of0_C h64, ROf0_C h64, Mem.Upto.refl _, Mem.Upto.refl _, Mem.Upto.refl _, OwnT.nil _ _, OwnT.nil _ _, OwnT.nil _ _, by simp⟩
  obtain ⟨M2, M3, M4, v, w, z, T, e, k1, m1, w1, k2, m2, w2, k3, m3, w3, hT⟩ := go
  have k3l := k3.1
  have sA := Same_C (k3.upto (m2.trans w2)).row.sl w3.row.sl (by omega)
  have sB := Same_C (r1.upto encP2 (by omega) (k2.trans (m2.trans w2))).sl (h1.upto encP2 (by omega) (k2.trans (m2.trans w2))) (by omega)
  simp only [decide_true] at sA sB
  rw [k1, Option.bind_some] at hE
  simp only [Option.bind_some, List.getElem?_cons_zero, List.getElem?_cons_succ, int?_int, AVal.bool?, AVal.ptr?, AVal.sl?, AVal.tup?, AVal.agg?, AVal.ifc?, AVal.fn?, AVal.str?, List.head?_cons, List.tail_cons, List.isEmpty_nil, cond_true, cond_false, Option.isNone_some, Option.isNone_none, Bool.not_true, Bool.not_false, decide_true, decide_false, beq_self_eq_true, bne_self_eq_false, Int.reduceBEq, Int.reduceBNe, Int.cast_ofNat_Int] at hE
  rw [m1, Option.bind_some] at hE
  simp only [Option.bind_some, List.getElem?_cons_zero, List.getElem?_cons_succ, int?_int, AVal.bool?, AVal.ptr?, AVal.sl?, AVal.tup?, AVal.agg?, AVal.ifc?, AVal.fn?, AVal.str?, List.head?_cons, List.tail_cons, List.isEmpty_nil, cond_true, cond_false, Option.isNone_some, Option.isNone_none, Bool.not_true, Bool.not_false, decide_true, decide_false, beq_self_eq_true, bne_self_eq_false, Int.reduceBEq, Int.reduceBNe, Int.cast_ofNat_Int] at hE
  rw [w1, Option.bind_some] at hE
  simp only [Option.bind_some, List.getElem?_cons_zero, List.getElem?_cons_succ, int?_int, AVal.bool?, AVal.ptr?, AVal.sl?, AVal.tup?, AVal.agg?, AVal.ifc?, AVal.fn?, AVal.str?, List.head?_cons, List.tail_cons, List.isEmpty_nil, cond_true, cond_false, Option.isNone_some, Option.isNone_none, Bool.not_true, Bool.not_false, decide_true, decide_false, beq_self_eq_true, bne_self_eq_false, Int.reduceBEq, Int.reduceBNe, Int.cast_ofNat_Int, bne_self_eq_false] at hE
  rw [sA, Option.bind_some] at hE
  simp only [Option.bind_some, List.getElem?_cons_zero, List.getElem?_cons_succ, int?_int, AVal.bool?, AVal.ptr?, AVal.sl?, AVal.tup?, AVal.agg?, AVal.ifc?, AVal.fn?, AVal.str?, List.head?_cons, List.tail_cons, List.isEmpty_nil, cond_true, cond_false, Option.isNone_some, Option.isNone_none, Bool.not_true, Bool.not_false, decide_true, decide_false, beq_self_eq_true, bne_self_eq_false, Int.reduceBEq, Int.reduceBNe, Int.cast_ofNat_Int, Bool.not_true] at hE
  rw [sB, Option.bind_some] at hE
  simp only [Option.bind_some, List.getElem?_cons_zero, List.getElem?_cons_succ, int?_int, AVal.bool?, AVal.ptr?, AVal.sl?, AVal.tup?, AVal.agg?, AVal.ifc?, AVal.fn?, AVal.str?, List.head?_cons, List.tail_cons, List.isEmpty_nil, cond_true, cond_false, Option.isNone_some, Option.isNone_none, Bool.not_true, Bool.not_false, decide_true, decide_false, beq_self_eq_true, bne_self_eq_false, Int.reduceBEq, Int.reduceBNe, Int.cast_ofNat_Int, Bool.not_true] at hE
  have hE1 := p4_1_eq C prog.meth a l c a2 l c2 v.1 v.2.1 v.2.2 w.1 w.2.1 w.2.2 z.1 z.2.1 z.2.2 M4
  have n2 := k2.1
  have n3 := m2.1
  have n4 := w2.1
  have k3' := k3.upto (m2.trans w2)
  -- the first one is changed
  have turn : ∃ M5, p4_2 C prog.meth a l c a2 l c2 v.1 v.2.1 v.2.2 w.1 w.2.1 w.2.2 z.1 z.2.1 z.2.2 0 M4 = p4_2 C prog.meth a l c a2 l c2 v.1 v.2.1 v.2.2 w.1 w.2.1 w.2.2 z.1 z.2.1 z.2.2 (v.2.1 : Int) M5 ∧ M4.n ≤ M5.n ∧ (∀ y, y < M1.n ∨ M2.n ≤ y → y < M4.n → M5.get y = M4.get y) := by
    obtain ⟨q1, q2⟩ := k3
    rcases q2 with q2 | ⟨o, f1, f2, f3, f4⟩
    · rw [q2]
      exact ⟨M4, rfl, Nat.le_refl _, fun _ _ _ => rfl⟩
    · have hd : Dat o M4 T := (f3.upto (m2.trans w2))
      have hol := Mem.get_lt f3
      rw [f1, f2]
      obtain ⟨M5, t1, t2⟩ := makes_turn (x0 := a) (l0 := l) (c0 := c) (x3 := a2) (l3 := l) (c3 := c2) (x6 := w.1) (l6 := w.2.1) (c6 := w.2.2) (x8 := z.1) (l8 := z.2.1) (c8 := z.2.2) (o := o) (n := v.2.1) (by omega) v.2.1 0 M4 T (by omega) k3l hd
      exact ⟨M5, t1, t2.1, fun y hy hyl => t2.2 y hyl (by omega)⟩
  obtain ⟨M5, t1, t2, t3⟩ := turn
  have hE2 := p4_2_eq C prog.meth a l c a2 l c2 v.1 v.2.1 v.2.2 w.1 w.2.1 w.2.2 z.1 z.2.1 z.2.2 (v.2.1 : Int) M5
  have irr : ¬ ((v.2.1 : Int) < (v.2.1 : Int)) := by omega
  have u15 : M1.Upto M5 := ⟨by omega, fun y hy => by rw [t3 y (.inl hy) (by omega), (k2.trans (m2.trans w2)).2 y hy]⟩
  have m5 : OwnT M2.n M5 w T := (m3.upto w2).keep (fun y h1 h2 => t3 y (.inr h1) h2)
  have w5 : OwnT M3.n M5 z T := w3.keep (fun y h1 h2 => t3 y (.inr (by omega)) h2)
  have m5l := m5.1
  have sC := Same_C m5.row.sl w5.row.sl (by omega)
  have sD := Same_C (r1.upto encP2 (by omega) u15).sl (h1.upto encP2 (by omega) u15) (by omega)
  simp only [decide_true] at sC sD
  simp only [irr, decide_false, cond_false] at hE2
  rw [sC, Option.bind_some] at hE2
  simp only [Option.bind_some, List.getElem?_cons_zero, List.getElem?_cons_succ, int?_int, AVal.bool?, AVal.ptr?, AVal.sl?, AVal.tup?, AVal.agg?, AVal.ifc?, AVal.fn?, AVal.str?, List.head?_cons, List.tail_cons, List.isEmpty_nil, cond_true, cond_false, Option.isNone_some, Option.isNone_none, Bool.not_true, Bool.not_false, decide_true, decide_false, beq_self_eq_true, bne_self_eq_false, Int.reduceBEq, Int.reduceBNe, Int.cast_ofNat_Int] at hE2
  rw [sD, Option.bind_some] at hE2
  simp only [Option.bind_some, List.getElem?_cons_zero, List.getElem?_cons_succ, int?_int, AVal.bool?, AVal.ptr?, AVal.sl?, AVal.tup?, AVal.agg?, AVal.ifc?, AVal.fn?, AVal.str?, List.head?_cons, List.tail_cons, List.isEmpty_nil, cond_true, cond_false, Option.isNone_some, Option.isNone_none, Bool.not_true, Bool.not_false, decide_true, decide_false, beq_self_eq_true, bne_self_eq_false, Int.reduceBEq, Int.reduceBNe, Int.cast_ofNat_Int] at hE2
  rw [cw, Option.bind_some] at hE2
  simp only [Option.bind_some, List.getElem?_cons_zero, List.getElem?_cons_succ, int?_int, AVal.bool?, AVal.ptr?, AVal.sl?, AVal.tup?, AVal.agg?, AVal.ifc?, AVal.fn?, AVal.str?, List.head?_cons, List.tail_cons, List.isEmpty_nil, cond_true, cond_false, Option.isNone_some, Option.isNone_none, Bool.not_true, Bool.not_false, decide_true, decide_false, beq_self_eq_true, bne_self_eq_false, Int.reduceBEq, Int.reduceBNe, Int.cast_ofNat_Int] at hE2
  exact ⟨M5, c4 (hE.trans (hE1.trans (t1.trans hE2))), u1.trans u15⟩
/-- What a key was given last. -/
theorem last_scan (h : Sl M 2 encP a l c xs) (hl : l ≤ 64) {other k i : Int} {ta : Option (Nat × Nat)} {tl : Nat} {tc : Cap} : ∀ (d j : Nat), j + d = l →
    p5_7 C prog.meth a l c other ta tl tc i k ((lastv (xs.take j) k).getD 0) (lastv (xs.take j) k).isSome (j : Int) M = p5_7 C prog.meth a l c other ta tl tc i k ((lastv xs k).getD 0) (lastv xs k).isSome (l : Int) M := by
  have hxl := h.2
  intro d
  induction d with
  | zero =>
    intro j hj
    obtain rfl : j = l := by omega
    rw [List.take_of_length_le (by omega)]
  | succ d ih =>
    intro j hj
    have hE := p5_7_eq C prog.meth a l c other ta tl tc i k ((lastv (xs.take j) k).getD 0) (lastv (xs.take j) k).isSome (j : Int) M
    have hE9 := p5_9_eq C prog.meth a l c other ta tl tc i k (j : Int) M
    have q : ((j : Int) < (l : Int)) := by omega
    have k0 : (0 : Int) ≤ (j : Int) := by omega
    have k1 : Nat.blt j l = true := Mem.blt_iff.2 (by omega)
    have hw : IntKind.wrap .i64 ((j : Int) + 1) = ((j + 1 : Nat) : Int) := by rw [wrap_i64 (by omega) (by omega)]; rfl
    obtain ⟨p, hp, l1, l2⟩ := pr_ld h (i := j) (by omega)
    have htk : xs.take (j + 1) = xs.take j ++ [xs[j]'(by omega)] := List.take_succ_eq_append_getElem (by omega)
    have hnx := ih (j + 1) (by omega)
    rw [htk, lastv_snoc] at hnx
    simp only [Option.bind_some, List.getElem?_cons_zero, List.getElem?_cons_succ, int?_int, AVal.bool?, AVal.ptr?, AVal.sl?, AVal.tup?, AVal.agg?, AVal.ifc?, AVal.fn?, AVal.str?, List.head?_cons, List.tail_cons, List.isEmpty_nil, cond_true, cond_false, Option.isNone_some, Option.isNone_none, Bool.not_true, Bool.not_false, decide_true, decide_false, beq_self_eq_true, bne_self_eq_false, Int.reduceBEq, Int.reduceBNe, Int.cast_ofNat_Int, q, k0, k1, Int.toNat_natCast, hp, Nat.add_zero, l1, hw] at hE
    simp only [Option.bind_some, List.getElem?_cons_zero, List.getElem?_cons_succ, int?_int, AVal.bool?, AVal.ptr?, AVal.sl?, AVal.tup?, AVal.agg?, AVal.ifc?, AVal.fn?, AVal.str?, List.head?_cons, List.tail_cons, List.isEmpty_nil, cond_true, cond_false, Option.isNone_some, Option.isNone_none, Bool.not_true, Bool.not_false, decide_true, decide_false, beq_self_eq_true, bne_self_eq_false, Int.reduceBEq, Int.reduceBNe, Int.cast_ofNat_Int, k0, k1, Int.toNat_natCast, hp, l2, hw] at hE9
    by_cases e : (xs[j]'(by omega)).1 = k
    · rw [if_pos e] at hnx
      simp only [e, beq_self_eq_true, cond_true] at hE
      exact hE.trans (hE9.trans hnx)
    · rw [if_neg e] at hnx
      have e' : ((xs[j]'(by omega)).1 == k) = false := by simpa using e
      simp only [e', cond_false] at hE
      exact hE.trans hnx
theorem TableLast_C (h : Sl M 2 encP a l c xs) (other : Int) : ∃ M', C 5 [.sl a l c, .int .u64 other] M = some (.bool true, M') ∧ M.Upto M' := by
  have hE := p5_0_eq C prog.meth a l c other M
  have hxl := h.2
  obtain ⟨Mw, cw⟩ := awake19_C
  rw [cw, Option.bind_some] at hE
  simp only [Option.bind_some, List.getElem?_cons_zero, List.getElem?_cons_succ, int?_int, AVal.bool?, AVal.ptr?, AVal.sl?, AVal.tup?, AVal.agg?, AVal.ifc?, AVal.fn?, AVal.str?, List.head?_cons, List.tail_cons, List.isEmpty_nil, cond_true, cond_false, Option.isNone_some, Option.isNone_none, Bool.not_true, Bool.not_false, decide_true, decide_false, beq_self_eq_true, bne_self_eq_false, Int.reduceBEq, Int.reduceBNe, Int.cast_ofNat_Int, Bool.not_true] at hE
  by_cases h64 : l ≤ 64
  rotate_left
  · have q : ((l : Int) > 64) := by omega
    have hE1 := p5_1_eq C prog.meth none 0 (.known 0) 3 M
    rw [Of0_C h64, Option.bind_some] at hE
    simp only [Option.bind_some, List.getElem?_cons_zero, List.getElem?_cons_succ, int?_int, AVal.bool?, AVal.ptr?, AVal.sl?, AVal.tup?, AVal.agg?, AVal.ifc?, AVal.fn?, AVal.str?, List.head?_cons, List.tail_cons, List.isEmpty_nil, cond_true, cond_false, Option.isNone_some, Option.isNone_none, Bool.not_true, Bool.not_false, decide_true, decide_false, beq_self_eq_true, bne_self_eq_false, Int.reduceBEq, Int.reduceBNe, Int.cast_ofNat_Int, q] at hE
    simp only [beq_self_eq_true, cond_true] at hE1
    exact ⟨M, c5 (hE.trans hE1), Mem.Upto.refl _⟩
  have q : ¬ ((l : Int) > 64) := by omega
  obtain ⟨M1, v, T, k1, u1, k3, k4, k5⟩ := Of_C h h64
  have h1 := h.upto encP2 (by omega) u1
  have hT := k3.row.sl
  have hvl := k3.1
  have hchk : chk T = 0 := chk_of (by omega) k4.up.inc
  have q2 : ¬ (((v.2.1 : Nat) : Int) > (l : Int)) := by omega
  have cT := Check_C hT
  rw [hchk] at cT
  rw [k1, Option.bind_some] at hE
  simp only [Option.bind_some, List.getElem?_cons_zero, List.getElem?_cons_succ, int?_int, AVal.bool?, AVal.ptr?, AVal.sl?, AVal.tup?, AVal.agg?, AVal.ifc?, AVal.fn?, AVal.str?, List.head?_cons, List.tail_cons, List.isEmpty_nil, cond_true, cond_false, Option.isNone_some, Option.isNone_none, Bool.not_true, Bool.not_false, decide_true, decide_false, beq_self_eq_true, bne_self_eq_false, Int.reduceBEq, Int.reduceBNe, Int.cast_ofNat_Int, q, bne_self_eq_false] at hE
  rw [cT, Option.bind_some] at hE
  simp only [Option.bind_some, List.getElem?_cons_zero, List.getElem?_cons_succ, int?_int, AVal.bool?, AVal.ptr?, AVal.sl?, AVal.tup?, AVal.agg?, AVal.ifc?, AVal.fn?, AVal.str?, List.head?_cons, List.tail_cons, List.isEmpty_nil, cond_true, cond_false, Option.isNone_some, Option.isNone_none, Bool.not_true, Bool.not_false, decide_true, decide_false, beq_self_eq_true, bne_self_eq_false, Int.reduceBEq, Int.reduceBNe, Int.cast_ofNat_Int, bne_self_eq_false, q2] at hE
  have hE2 := p5_2_eq C prog.meth a l c other v.1 v.2.1 v.2.2 M1
  -- one key
  have step : ∀ (i k : Int), p5_5 C prog.meth a l c other v.1 v.2.1 v.2.2 i k M1 = p5_3 C prog.meth a l c other v.1 v.2.1 v.2.2 (IntKind.wrap .i64 (i + 1)) M1 := by
    intro i k
    have hF := p5_5_eq C prog.meth a l c other v.1 v.2.1 v.2.2 i k M1
    have sc := last_scan (other := other) (k := k) (i := i) (ta := v.1) (tl := v.2.1) (tc := v.2.2) h1 h64 l 0 (by omega)
    have hG := p5_7_eq C prog.meth a l c other v.1 v.2.1 v.2.2 i k ((lastv xs k).getD 0) (lastv xs k).isSome (l : Int) M1
    have irr : ¬ ((l : Int) < (l : Int)) := by omega
    obtain ⟨x, b, r1, _, r3⟩ := Find_C hT k
    have r3 := r3 hchk
    have hx : x = (lastv xs k).getD 0 ∧ b = (lastv xs k).isSome := by
      rcases r3 with ⟨rfl, hm⟩ | ⟨rfl, rfl, hn⟩
      · have := (k4.mem k x).1 hm
        rw [this]; exact ⟨rfl, rfl⟩
      · cases hl : lastv xs k with
        | none => exact ⟨rfl, rfl⟩
        | some w => exact absurd rfl (hn _ ((k4.mem k w).2 hl))
    rw [hx.1, hx.2] at r1
    simp only [irr, decide_false, cond_false] at hG
    rw [r1, Option.bind_some] at hG
    simp only [Option.bind_some, List.getElem?_cons_zero, List.getElem?_cons_succ, int?_int, AVal.bool?, AVal.ptr?, AVal.sl?, AVal.tup?, AVal.agg?, AVal.ifc?, AVal.fn?, AVal.str?, List.head?_cons, List.tail_cons, List.isEmpty_nil, cond_true, cond_false, Option.isNone_some, Option.isNone_none, Bool.not_true, Bool.not_false, decide_true, decide_false, beq_self_eq_true, bne_self_eq_false, Int.reduceBEq, Int.reduceBNe, Int.cast_ofNat_Int, bne_self_eq_false, beq_self_eq_true, Bool.not_true] at hG
    exact hF.trans (sc.trans hG)
  -- the end
  have fin : ∃ M', p5_3 C prog.meth a l c other v.1 v.2.1 v.2.2 (l : Int) M1 = some (.bool true, M') ∧ M1.Upto M' := by
    have hF := p5_3_eq C prog.meth a l c other v.1 v.2.1 v.2.2 (l : Int) M1
    have irr : ¬ ((l : Int) < (l : Int)) := by omega
    obtain ⟨M2, w, T2, m1, m2, m3, m4, m5⟩ := Of_C hT (by omega)
    obtain rfl : T = T2 := k4.up.self.uniq m4
    have hwl := m3.1
    have hne : (((w.2.1 : Nat) : Int) != ((v.2.1 : Nat) : Int)) = false := by rw [← hwl, ← hvl]; simp
    have hF6 := p5_6_eq C prog.meth v.1 v.2.1 v.2.2 w.1 w.2.1 w.2.2 M2
    simp only [irr, decide_false, cond_false] at hF
    rw [m1, Option.bind_some] at hF
    simp only [Option.bind_some, List.getElem?_cons_zero, List.getElem?_cons_succ, int?_int, AVal.bool?, AVal.ptr?, AVal.sl?, AVal.tup?, AVal.agg?, AVal.ifc?, AVal.fn?, AVal.str?, List.head?_cons, List.tail_cons, List.isEmpty_nil, cond_true, cond_false, Option.isNone_some, Option.isNone_none, Bool.not_true, Bool.not_false, decide_true, decide_false, beq_self_eq_true, bne_self_eq_false, Int.reduceBEq, Int.reduceBNe, Int.cast_ofNat_Int, bne_self_eq_false, hne] at hF
    have hT2 := (k3.upto m2).row.sl
    have hW2 := m3.row.sl
    have loop : ∀ (d i : Nat), i + d = v.2.1 → p5_8 C prog.meth v.1 v.2.1 v.2.2 w.1 w.2.1 w.2.2 (i : Int) M2 = some (.bool true, M2) := by
      intro d
      induction d with
      | zero =>
        intro i hi
        have hG := p5_8_eq C prog.meth v.1 v.2.1 v.2.2 w.1 w.2.1 w.2.2 (i : Int) M2
        have q : ¬ ((i : Int) < (v.2.1 : Int)) := by omega
        simp only [q, decide_false, cond_false] at hG
        exact hG
      | succ d ih =>
        intro i hi
        have hG := p5_8_eq C prog.meth v.1 v.2.1 v.2.2 w.1 w.2.1 w.2.2 (i : Int) M2
        have q : ((i : Int) < (v.2.1 : Int)) := by omega
        have k0 : (0 : Int) ≤ (i : Int) := by omega
        have k1 : Nat.blt i v.2.1 = true := Mem.blt_iff.2 (by omega)
        have k2 : Nat.blt i w.2.1 = true := Mem.blt_iff.2 (by omega)
        have hw : IntKind.wrap .i64 ((i : Int) + 1) = ((i + 1 : Nat) : Int) := by rw [wrap_i64 (by omega) (by omega)]; rfl
        obtain ⟨p, hp, l1, l2⟩ := pr_ld hT2 (i := i) (by omega)
        obtain ⟨p', hp', l1', l2'⟩ := pr_ld hW2 (i := i) (by omega)
        simp only [Option.bind_some, List.getElem?_cons_zero, List.getElem?_cons_succ, int?_int, AVal.bool?, AVal.ptr?, AVal.sl?, AVal.tup?, AVal.agg?, AVal.ifc?, AVal.fn?, AVal.str?, List.head?_cons, List.tail_cons, List.isEmpty_nil, cond_true, cond_false, Option.isNone_some, Option.isNone_none, Bool.not_true, Bool.not_false, decide_true, decide_false, beq_self_eq_true, bne_self_eq_false, Int.reduceBEq, Int.reduceBNe, Int.cast_ofNat_Int, q, k0, k1, k2, Int.toNat_natCast, hp, hp', l1, l2, l1', l2', hw, beq_self_eq_true, Bool.and_true, Bool.not_true] at hG
        rw [hG]
        exact ih (i + 1) (by omega)
    exact ⟨M2, hF.trans (hF6.trans (loop v.2.1 0 (by omega))), m2⟩
  obtain ⟨M', fin, uf⟩ := fin
  have loop : ∀ (d i : Nat), i + d = l → p5_3 C prog.meth a l c other v.1 v.2.1 v.2.2 (i : Int) M1 = some (.bool true, M') := by
    intro d
    induction d with
    | zero =>
      intro i hi
      obtain rfl : i = l := by omega
      exact fin
    | succ d ih =>
      intro i hi
      have hF := p5_3_eq C prog.meth a l c other v.1 v.2.1 v.2.2 (i : Int) M1
      have hF4 := p5_4_eq C prog.meth a l c other v.1 v.2.1 v.2.2 (i : Int) M1
      have q : ((i : Int) < (l : Int)) := by omega
      have q1 : ((i : Int) ≥ 0) := by omega
      have k0 : (0 : Int) ≤ (i : Int) := by omega
      have k1 : Nat.blt i l = true := Mem.blt_iff.2 (by omega)
      have hw : IntKind.wrap .i64 ((i : Int) + 1) = ((i + 1 : Nat) : Int) := by rw [wrap_i64 (by omega) (by omega)]; rfl
      obtain ⟨p, hp, l1, l2⟩ := pr_ld h1 (i := i) (by omega)
      simp only [q, q1, decide_true, cond_true] at hF
      simp only [Option.bind_some, List.getElem?_cons_zero, List.getElem?_cons_succ, int?_int, AVal.bool?, AVal.ptr?, AVal.sl?, AVal.tup?, AVal.agg?, AVal.ifc?, AVal.fn?, AVal.str?, List.head?_cons, List.tail_cons, List.isEmpty_nil, cond_true, cond_false, Option.isNone_some, Option.isNone_none, Bool.not_true, Bool.not_false, decide_true, decide_false, beq_self_eq_true, bne_self_eq_false, Int.reduceBEq, Int.reduceBNe, Int.cast_ofNat_Int, k0, k1, Int.toNat_natCast, hp, Nat.add_zero, l1] at hF4
      have st := step (i : Int) (xs[i]'(by omega)).1
      rw [hw] at st
      exact hF.trans (hF4.trans (st.trans (ih (i + 1) (by omega))))
  have hF := p5_3_eq C prog.meth a l c other v.1 v.2.1 v.2.2 (-1) M1
  have k1 : ((-1 : Int) < (l : Int)) := by omega
  have k3' : ¬ ((-1 : Int) ≥ 0) := by omega
  have hw : IntKind.wrap .i64 ((-1 : Int) + 1) = ((0 : Nat) : Int) := by decide
  simp only [k1, k3', decide_true, decide_false, cond_true, cond_false] at hF
  have st := step (-1) other
  rw [hw] at st
  exact ⟨M', c5 (hE.trans (hE2.trans (hF.trans (st.trans (loop l 0 (by omega)))))), u1.trans uf⟩
theorem rev_tab {T : List Pr} (h : Up T) : Tab T.reverse T := ⟨h, fun k v => by
  constructor
  · intro hm
    cases hl : lastv T.reverse k with
    | none => exact absurd rfl (lastv_none hl (k, v) (List.mem_reverse.2 hm))
    | some w => rw [h.inc.uniq hm (List.mem_reverse.1 (lastv_mem hl))]
  · intro hl
    exact List.mem_reverse.1 (lastv_mem hl)⟩
theorem order1_C (h : Sl M 2 encP a l c xs) (h64 : l ≤ 64) : ∃ M', p6_1 C prog.meth a l c M = some (.bool true, M') := by
  have hE := p6_1_eq C prog.meth a l c M
  obtain ⟨M1, v, T, k1, u1, k3, k4, k5⟩ := Of_C h h64
  have hvl := k3.1
  rw [k1, Option.bind_some] at hE
  simp only [Option.bind_some, List.getElem?_cons_zero, List.getElem?_cons_succ, int?_int, AVal.bool?, AVal.ptr?, AVal.sl?, AVal.tup?, AVal.agg?, AVal.ifc?, AVal.fn?, AVal.str?, List.head?_cons, List.tail_cons, List.isEmpty_nil, cond_true, cond_false, Option.isNone_some, Option.isNone_none, Bool.not_true, Bool.not_false, decide_true, decide_false, beq_self_eq_true, bne_self_eq_false, Int.reduceBEq, Int.reduceBNe, Int.cast_ofNat_Int, bne_self_eq_false] at hE
  have n1 := u1.1
  -- turned round
  have loop : ∀ (i : Nat) (M2 : Mem) (w : SlV), i ≤ v.2.1 → OwnT M1.n M2 w (T.drop i).reverse → M1.Upto M2 → ∃ M' w', p6_2 C prog.meth v.1 v.2.1 v.2.2 w.1 w.2.1 w.2.2 ((i : Int) - 1) M2 = p6_2 C prog.meth v.1 v.2.1 v.2.2 w'.1 w'.2.1 w'.2.2 (-1) M' ∧ OwnT M1.n M' w' T.reverse ∧ M1.Upto M' := by
    intro i
    induction i with
    | zero =>
      intro M2 w hi hw hu
      exact ⟨M2, w, by rw [show (((0 : Nat) : Int) - 1) = -1 from rfl], by simpa using hw, hu⟩
    | succ i ih =>
      intro M2 w hi hw hu
      have hF := p6_2_eq C prog.meth v.1 v.2.1 v.2.2 w.1 w.2.1 w.2.2 (((i + 1 : Nat) : Int) - 1) M2
      have e1 : (((i + 1 : Nat) : Int) - 1) = (i : Int) := by omega
      rw [e1] at hF ⊢
      have q : ((i : Int) ≥ 0) := by omega
      have k0 : (0 : Int) ≤ (i : Int) := by omega
      have k1 : Nat.blt i v.2.1 = true := Mem.blt_iff.2 (by omega)
      have hwr : IntKind.wrap .i64 ((i : Int) - 1) = (i : Int) - 1 := wrap_i64 (by omega) (by omega)
      obtain ⟨p, hp, l1, l2⟩ := pr_ld (k3.upto hu).row.sl (i := i) (by omega)
      have hwl := hw.1
      simp only [List.length_reverse, List.length_drop] at hwl
      obtain ⟨M3, m1, m2, m3, m4⟩ := hw.push (T[i]'(by omega)) (by omega) hu.1
      simp only [Option.bind_some, List.getElem?_cons_zero, List.getElem?_cons_succ, int?_int, AVal.bool?, AVal.ptr?, AVal.sl?, AVal.tup?, AVal.agg?, AVal.ifc?, AVal.fn?, AVal.str?, List.head?_cons, List.tail_cons, List.isEmpty_nil, cond_true, cond_false, Option.isNone_some, Option.isNone_none, Bool.not_true, Bool.not_false, decide_true, decide_false, beq_self_eq_true, bne_self_eq_false, Int.reduceBEq, Int.reduceBNe, Int.cast_ofNat_Int, q, k0, k1, Int.toNat_natCast, hp, l1, l2, hwr] at hF
      rw [m1] at hF
      obtain ⟨M', w', r1, r2, r3⟩ := ih M3 _ (by omega) (by
        have : T.drop i = T[i]'(by omega) :: T.drop (i + 1) := List.drop_eq_getElem_cons (by omega)
        rw [this, List.reverse_cons]; exact m2) ⟨by have := hu.1; omega, fun y hy => by rw [m4.2 y (by have := hu.1; omega) (by omega), hu.2 y hy]⟩
      exact ⟨M', w', hF.trans r1, r2, r3⟩
  obtain ⟨M2, w, t1, t2, t3⟩ := loop v.2.1 M1 (none, 0, .known 0) (Nat.le_refl _) (by rw [List.drop_eq_nil_of_le (by omega)]; exact OwnT.nil _ _) (Mem.Upto.refl _)
  have hwv : IntKind.wrap .i64 (((v.2.1 : Nat) : Int) - 1) = ((v.2.1 : Nat) : Int) - 1 := wrap_i64 (by omega) (by omega)
  rw [hwv] at hE
  have hF := p6_2_eq C prog.meth v.1 v.2.1 v.2.2 w.1 w.2.1 w.2.2 (-1) M2
  have q : ¬ ((-1 : Int) ≥ 0) := by omega
  have hwl := t2.1
  simp only [List.length_reverse] at hwl
  obtain ⟨M3, z, U, m1, m2, m3, m4, m5⟩ := Of_C t2.row.sl (by omega)
  obtain rfl : T = U := (rev_tab k4.up).uniq m4
  have hzl := m3.1
  have hne : (((z.2.1 : Nat) : Int) != ((v.2.1 : Nat) : Int)) = false := by rw [← hzl, ← hvl]; simp
  simp only [q, decide_false, cond_false] at hF
  rw [m1, Option.bind_some] at hF
  simp only [Option.bind_some, List.getElem?_cons_zero, List.getElem?_cons_succ, int?_int, AVal.bool?, AVal.ptr?, AVal.sl?, AVal.tup?, AVal.agg?, AVal.ifc?, AVal.fn?, AVal.str?, List.head?_cons, List.tail_cons, List.isEmpty_nil, cond_true, cond_false, Option.isNone_some, Option.isNone_none, Bool.not_true, Bool.not_false, decide_true, decide_false, beq_self_eq_true, bne_self_eq_false, Int.reduceBEq, Int.reduceBNe, Int.cast_ofNat_Int, bne_self_eq_false, hne] at hF
  have hF3 := p6_3_eq C prog.meth v.1 v.2.1 v.2.2 w.1 w.2.1 w.2.2 z.1 z.2.1 z.2.2 M3
  have hT3 := (k3.upto (t3.trans m2)).row.sl
  have hZ3 := m3.row.sl
  have cmp : ∀ (d i : Nat), i + d = v.2.1 → ∃ M', p6_4 C prog.meth v.1 v.2.1 v.2.2 w.1 w.2.1 w.2.2 z.1 z.2.1 z.2.2 (i : Int) M3 = some (.bool true, M') := by
    intro d
    induction d with
    | zero =>
      intro i hi
      have hG := p6_4_eq C prog.meth v.1 v.2.1 v.2.2 w.1 w.2.1 w.2.2 z.1 z.2.1 z.2.2 (i : Int) M3
      have q : ¬ ((i : Int) < (v.2.1 : Int)) := by omega
      by_cases h2 : ((v.2.1 : Nat) : Int) < 2
      · simp only [q, h2, decide_false, decide_true, cond_true, cond_false] at hG
        exact ⟨M3, hG⟩
      · have cR := Check_C (t2.upto m2).row.sl
        have hc : chk T.reverse = 190 := by
          unfold chk
          rw [if_neg (by simp; omega), if_neg (fun hI => ?_)]
          have h01 := hI 0 (by simp; omega)
          have := List.pairwise_iff_getElem.1 k4.up (T.length - 2) (T.length - 1) (by omega) (by omega) (by omega)
          simp only [List.getElem_reverse] at h01
          have e1 : T.length - 1 - 0 = T.length - 1 := by omega
          have e2 : T.length - 1 - (0 + 1) = T.length - 2 := by omega
          simp only [e1, e2] at h01
          omega
        rw [hc] at cR
        simp only [q, h2, decide_false, cond_false] at hG
        rw [cR, Option.bind_some] at hG
        simp only [Option.bind_some, List.getElem?_cons_zero, List.getElem?_cons_succ, int?_int, AVal.bool?, AVal.ptr?, AVal.sl?, AVal.tup?, AVal.agg?, AVal.ifc?, AVal.fn?, AVal.str?, List.head?_cons, List.tail_cons, List.isEmpty_nil, cond_true, cond_false, Option.isNone_some, Option.isNone_none, Bool.not_true, Bool.not_false, decide_true, decide_false, beq_self_eq_true, bne_self_eq_false, Int.reduceBEq, Int.reduceBNe, Int.cast_ofNat_Int, beq_self_eq_true] at hG
        exact ⟨M3, hG⟩
    | succ d ih =>
      intro i hi
      have hG := p6_4_eq C prog.meth v.1 v.2.1 v.2.2 w.1 w.2.1 w.2.2 z.1 z.2.1 z.2.2 (i : Int) M3
      have q : ((i : Int) < (v.2.1 : Int)) := by omega
      have k0 : (0 : Int) ≤ (i : Int) := by omega
      have k1 : Nat.blt i v.2.1 = true := Mem.blt_iff.2 (by omega)
      have k2 : Nat.blt i z.2.1 = true := Mem.blt_iff.2 (by omega)
      have hw : IntKind.wrap .i64 ((i : Int) + 1) = ((i + 1 : Nat) : Int) := by rw [wrap_i64 (by omega) (by omega)]; rfl
      obtain ⟨p, hp, l1, l2⟩ := pr_ld hT3 (i := i) (by omega)
      obtain ⟨p', hp', l1', l2'⟩ := pr_ld hZ3 (i := i) (by omega)
      simp only [Option.bind_some, List.getElem?_cons_zero, List.getElem?_cons_succ, int?_int, AVal.bool?, AVal.ptr?, AVal.sl?, AVal.tup?, AVal.agg?, AVal.ifc?, AVal.fn?, AVal.str?, List.head?_cons, List.tail_cons, List.isEmpty_nil, cond_true, cond_false, Option.isNone_some, Option.isNone_none, Bool.not_true, Bool.not_false, decide_true, decide_false, beq_self_eq_true, bne_self_eq_false, Int.reduceBEq, Int.reduceBNe, Int.cast_ofNat_Int, q, k0, k1, k2, Int.toNat_natCast, hp, hp', l1, l2, l1', l2', hw, beq_self_eq_true, Bool.and_true, Bool.not_true] at hG
      obtain ⟨M', r⟩ := ih (i + 1) (by omega)
      exact ⟨M', hG.trans r⟩
  obtain ⟨M', r⟩ := cmp v.2.1 0 (by omega)
  exact ⟨M', hE.trans (t1.trans (hF.trans (hF3.trans r)))⟩
end
theorem TableMakes_law : ∀ avs M, M.Whole → okL M.n avs → ShowsArgs M [(false, [.sl 16 [.int .u64, .int .u64]])] avs → ∃ M', C 4 avs M = some (.bool true, M') := by
  intro avs M hM hok h
  simp only [ShowsArgs, ShowsArg] at h
  obtain ⟨v, _, rfl, ⟨t, ht, hv⟩, rfl⟩ := h
  obtain rfl : t = .sl 16 [.int .u64, .int .u64] := by simpa using ht.symm
  obtain ⟨a, l, c, xs, rfl, hx, hl, hb⟩ := pairs_of hv
  obtain ⟨M', h1, _⟩ := TableMakes_C hx (by simp [reachBytes] at hl; omega)
  exact ⟨M', h1⟩
theorem TableLast_law : ∀ avs M, M.Whole → okL M.n avs → ShowsArgs M [(false, [.sl 16 [.int .u64, .int .u64]]), (false, [.int .u64])] avs → ∃ M', C 5 avs M = some (.bool true, M') := by
  intro avs M hM hok h
  simp only [ShowsArgs, ShowsArg] at h
  obtain ⟨v, _, rfl, ⟨t, ht, hv⟩, w, _, rfl, ⟨t2, ht2, hw⟩, rfl⟩ := h
  obtain rfl : t = .sl 16 [.int .u64, .int .u64] := by simpa using ht.symm
  obtain rfl : t2 = .int .u64 := by simpa using ht2.symm
  obtain ⟨a, l, c, xs, rfl, hx, hl, hb⟩ := pairs_of hv
  simp only [Shows] at hw
  obtain ⟨k, rfl, _⟩ := hw
  obtain ⟨M', h1, _⟩ := TableLast_C hx k
  exact ⟨M', h1⟩
theorem TableOrder_law : ∀ avs M, M.Whole → okL M.n avs → ShowsArgs M [(false, [.sl 16 [.int .u64, .int .u64]])] avs → ∃ M', C 6 avs M = some (.bool true, M') := by
  intro avs M hM hok h
  simp only [ShowsArgs, ShowsArg] at h
  obtain ⟨v, _, rfl, ⟨t, ht, hv⟩, rfl⟩ := h
  obtain rfl : t = .sl 16 [.int .u64, .int .u64] := by simpa using ht.symm
  have hv' := hv
  obtain ⟨a, l, c, xs, rfl, hx, hl, hb⟩ := pairs_of hv
  have hE := p6_0_eq C prog.meth a l c M
  obtain ⟨Mw, cw⟩ := awake19_C
  rw [cw, Option.bind_some] at hE
  simp only [Option.bind_some, List.getElem?_cons_zero, List.getElem?_cons_succ, int?_int, AVal.bool?, AVal.ptr?, AVal.sl?, AVal.tup?, AVal.agg?, AVal.ifc?, AVal.fn?, AVal.str?, List.head?_cons, List.tail_cons, List.isEmpty_nil, cond_true, cond_false, Option.isNone_some, Option.isNone_none, Bool.not_true, Bool.not_false, decide_true, decide_false, beq_self_eq_true, bne_self_eq_false, Int.reduceBEq, Int.reduceBNe, Int.cast_ofNat_Int, Bool.not_true] at hE
  by_cases h64 : ((l : Nat) : Int) > 64
  · rw [Shows] at hv'
    rcases hv' with h | ⟨o, h⟩ | ⟨o, len, cells, h, h2, h3, h4, h5⟩
    · cases h; simp at h64
    · cases h; simp at h64
    · simp only [AVal.sl.injEq] at h
      obtain ⟨rfl, rfl, rfl⟩ := h
      have h3 : cells.length = l * 2 := h3
      have h2 : M.get o = some ⟨cells, .ro 2⟩ := h2
      have hs := fun {β : Type} (K : Option (Nat × Nat) → Nat → Cap → Option β) => slcK_own_to (K := K) (s := 2) (len := l) (h := 64) (kh := .i64) h2 (.inr rfl) (by omega)
      simp only [h64, decide_true, cond_true] at hE
      rw [show (64 : Int) = ((64 : Nat) : Int) from rfl, hs] at hE
      have hxl := hx.2
      have hc : cells.take (64 * 2) = (xs.take 64).flatMap encP := by
        have := hx.1
        have e1 : cells = xs.flatMap encP := by
          have r := hx.1
          unfold Mem.raws at r
          rw [Go.Abs.beq_false (by omega), cond_false] at r
          have hp : slPtr (some (o, 0)) (.unk 0) = some (o, 0) := rfl
          rw [hp, Option.bind_some, raw_of h2 (by simp) (by omega)] at r
          have r := Option.some.inj r
          rw [List.drop_zero, List.take_of_length_le (by omega)] at r
          exact r
        rw [e1, flatMap_take encP2]
      have hsl : Sl M 2 encP (some (o, 0)) 64 (.unk 0) (xs.take 64) := Sl.of h2 (by simp) rfl (by omega) (by rw [List.drop_zero]; exact hc) (by simp; omega)
      obtain ⟨M', r⟩ := order1_C hsl (Nat.le_refl _)
      exact ⟨M', c6 (hE.trans r)⟩
  · simp only [h64, decide_false, cond_false] at hE
    obtain ⟨M', r⟩ := order1_C hx (by omega)
    exact ⟨M', c6 (hE.trans r)⟩
end Go.Proofs.Ytlglggcheffoeaa.M
