/- TableNames. -/
import Derived.Test.YtlglggcheffoeaaTL
set_option linter.unusedVariables false
set_option linter.unusedSimpArgs false
set_option linter.unnecessarySimpa false
set_option maxRecDepth 100000
namespace Go.Proofs.Ytlglggcheffoeaa.M
open Go.Abs Go.RowKit

def namesL : Nat → List Pr
  | 0 => []
  | i + 1 => namesL i ++ [((i : Int), 1000 - (i : Int))]
theorem namesL_length : ∀ i, (namesL i).length = i
  | 0 => rfl
  | i + 1 => by rw [namesL, List.length_append, namesL_length i]; rfl
theorem names_build {M0 : Mem} : ∀ (d i : Nat) (M : Mem) (v : SlV), i + d = 65 → OwnT M0.n M v (namesL i) → M0.Upto M → ∃ M' v', p7_1 C prog.meth v.1 v.2.1 v.2.2 (i : Int) M = p7_1 C prog.meth v'.1 v'.2.1 v'.2.2 65 M' ∧ OwnT M0.n M' v' (namesL 65) ∧ M0.Upto M' := by
  intro d
  induction d with
  | zero =>
    intro i M v hi hO hu
    obtain rfl : i = 65 := by omega
    exact ⟨M, v, rfl, hO, hu⟩
  | succ d ih =>
    intro i M v hi hO hu
    have hE := p7_1_eq C prog.meth v.1 v.2.1 v.2.2 (i : Int) M
    have q : ((i : Int) < 65) := by omega
    have w1 : IntKind.wrap .u64 (i : Int) = (i : Int) := by rw [wu64]; omega
    have w2 : IntKind.wrap .u64 (IntKind.wrap .i64 (1000 - (i : Int))) = 1000 - (i : Int) := by rw [wrap_i64 (by omega) (by omega), wu64]; omega
    have hw : IntKind.wrap .i64 ((i : Int) + 1) = ((i + 1 : Nat) : Int) := by rw [wrap_i64 (by omega) (by omega)]; rfl
    have hl := hO.1
    rw [namesL_length] at hl
    obtain ⟨M2, k1, k2, k3, k4⟩ := hO.push ((i : Int), 1000 - (i : Int)) (by omega) hu.1
    simp only [q, decide_true, cond_true, w1, w2, hw] at hE
    rw [k1] at hE
    obtain ⟨M', v', r1, r2, r3⟩ := ih (i + 1) M2 _ (by omega) k2 ⟨by have := hu.1; omega, fun y hy => by rw [k4.2 y (by have := hu.1; omega) (by omega), hu.2 y hy]⟩
    exact ⟨M', v', hE.trans r1, r2, r3⟩
theorem own_head {N0 : Nat} {M : Mem} {v : SlV} {T : List Pr} (h : OwnT N0 M v T) {i : Nat} (hi : i ≤ v.2.1) (h0 : 0 < v.2.1) : (∀ {β : Type} (K : Option (Nat × Nat) → Nat → Cap → Option β), slcK false 2 v.1 v.2.1 v.2.2 M none (some (.int .i64 (i : Int))) none K = K v.1 i v.2.2) ∧ Sl M 2 encP v.1 i v.2.2 (T.take i) := by
  obtain ⟨h1, e | ⟨o, e1, e2, e3, e4⟩⟩ := h
  · rw [e] at h0; simp at h0
  · have hl : (T.flatMap encP).length = v.2.1 * 2 := by rw [flatMap_length encP2, h1]
    rw [e1, e2]
    refine ⟨fun K => slcK_own_to e3 (.inl rfl) (by omega), Sl.of e3 (by simp) rfl (by omega) ?_ (by simp; omega)⟩
    rw [List.drop_zero, flatMap_take encP2]
theorem TableNames_C {M : Mem} : ∃ M', C 7 [] M = some (.bool true, M') := by
  have hE := p7_0_eq C prog.meth M
  obtain ⟨M1, v, t1, t2, t3⟩ := names_build 65 0 M (none, 0, .known 0) (by omega) (OwnT.nil _ _) (Mem.Upto.refl _)
  have hE1 := p7_1_eq C prog.meth v.1 v.2.1 v.2.2 65 M1
  have q : ¬ ((65 : Int) < 65) := by omega
  obtain ⟨Mw, cw⟩ := awake19_C
  have hvl := t2.1
  rw [namesL_length] at hvl
  obtain ⟨M2, e2, g2, u2, n2⟩ := alloc_at M1 ⟨[.int .u64 0, .int .u64 1, .int .u64 9223372036854775808, .int .u64 2, .int .u64 18446744073709551615, .int .u64 3], .fixed⟩
  have hv2 := t2.upto u2
  have hends : Sl M2 2 encP (some (M1.n, 0)) 3 (.known 3) [(0, 1), (9223372036854775808, 2), (18446744073709551615, 3)] := Sl.whole (xs := [(0, 1), (9223372036854775808, 2), (18446744073709551615, 3)]) encP2 g2 (by simp) rfl
  obtain ⟨M3, c3, u3⟩ := TableFinds_C (k := 64) hv2.row.sl (by omega)
  have v3 := hv2.upto u3
  obtain ⟨s3, h3⟩ := own_head (i := 64) v3 (by omega) (by omega)
  obtain ⟨M4, c4, u4⟩ := TableFinds_C (k := 63) h3 (by omega)
  have v4 := v3.upto u4
  obtain ⟨M5, c5, u5⟩ := TableMakes_C v4.row.sl (by omega)
  have v5 := v4.upto u5
  obtain ⟨s5, h5⟩ := own_head (i := 64) v5 (by omega) (by omega)
  obtain ⟨M6, c6, u6⟩ := TableMakes_C h5 (by omega)
  have v6 := v5.upto u6
  obtain ⟨M7, c7', u7⟩ := TableLast_C v6.row.sl 3
  have v7 := v6.upto u7
  obtain ⟨s7, h7⟩ := own_head (i := 64) v7 (by omega) (by omega)
  obtain ⟨M8, c8, u8⟩ := TableLast_C h7 64
  have u28 := u3.trans (u4.trans (u5.trans (u6.trans (u7.trans u8))))
  obtain ⟨M9, c9', u9⟩ := TableFinds_C (k := 9223372036854775807) (hends.upto encP2 (by omega) u28) (by omega)
  obtain ⟨M10, c10', u10⟩ := TableLast_C (hends.upto encP2 (by omega) (u28.trans u9)) 1
  obtain ⟨M11, c11', u11⟩ := TableFinds_C (M := M10) (a := none) (l := 0) (c := .known 0) (k := 0) (Sl.nil _ _ _ _ _) (by omega)
  obtain ⟨M12, c12', u12⟩ := TableMakes_C (M := M11) (a := none) (l := 0) (c := .known 0) (Sl.nil _ _ _ _ _) (by omega)
  have s3 := fun {β : Type} (K : Option (Nat × Nat) → Nat → Cap → Option β) => s3 K
  have s5 := fun {β : Type} (K : Option (Nat × Nat) → Nat → Cap → Option β) => s5 K
  have s7 := fun {β : Type} (K : Option (Nat × Nat) → Nat → Cap → Option β) => s7 K
  rw [show (((64 : Nat) : Int)) = 64 from rfl] at s3 s5 s7
  simp only [q, decide_false, cond_false, e2] at hE1
  rw [cw, Option.bind_some] at hE1
  simp only [Option.bind_some, List.getElem?_cons_zero, List.getElem?_cons_succ, int?_int, AVal.bool?, AVal.ptr?, AVal.sl?, AVal.tup?, AVal.agg?, AVal.ifc?, AVal.fn?, AVal.str?, List.head?_cons, List.tail_cons, List.isEmpty_nil, cond_true, cond_false, Option.isNone_some, Option.isNone_none, Bool.not_true, Bool.not_false, decide_true, decide_false, beq_self_eq_true, bne_self_eq_false, Int.reduceBEq, Int.reduceBNe, Int.cast_ofNat_Int] at hE1
  rw [c3, Option.bind_some] at hE1
  simp only [Option.bind_some, List.getElem?_cons_zero, List.getElem?_cons_succ, int?_int, AVal.bool?, AVal.ptr?, AVal.sl?, AVal.tup?, AVal.agg?, AVal.ifc?, AVal.fn?, AVal.str?, List.head?_cons, List.tail_cons, List.isEmpty_nil, cond_true, cond_false, Option.isNone_some, Option.isNone_none, Bool.not_true, Bool.not_false, decide_true, decide_false, beq_self_eq_true, bne_self_eq_false, Int.reduceBEq, Int.reduceBNe, Int.cast_ofNat_Int] at hE1
  rw [s3, c4, Option.bind_some] at hE1
  simp only [Option.bind_some, List.getElem?_cons_zero, List.getElem?_cons_succ, int?_int, AVal.bool?, AVal.ptr?, AVal.sl?, AVal.tup?, AVal.agg?, AVal.ifc?, AVal.fn?, AVal.str?, List.head?_cons, List.tail_cons, List.isEmpty_nil, cond_true, cond_false, Option.isNone_some, Option.isNone_none, Bool.not_true, Bool.not_false, decide_true, decide_false, beq_self_eq_true, bne_self_eq_false, Int.reduceBEq, Int.reduceBNe, Int.cast_ofNat_Int] at hE1
  rw [c5, Option.bind_some] at hE1
  simp only [Option.bind_some, List.getElem?_cons_zero, List.getElem?_cons_succ, int?_int, AVal.bool?, AVal.ptr?, AVal.sl?, AVal.tup?, AVal.agg?, AVal.ifc?, AVal.fn?, AVal.str?, List.head?_cons, List.tail_cons, List.isEmpty_nil, cond_true, cond_false, Option.isNone_some, Option.isNone_none, Bool.not_true, Bool.not_false, decide_true, decide_false, beq_self_eq_true, bne_self_eq_false, Int.reduceBEq, Int.reduceBNe, Int.cast_ofNat_Int] at hE1
  rw [s5, c6, Option.bind_some] at hE1
  simp only [Option.bind_some, List.getElem?_cons_zero, List.getElem?_cons_succ, int?_int, AVal.bool?, AVal.ptr?, AVal.sl?, AVal.tup?, AVal.agg?, AVal.ifc?, AVal.fn?, AVal.str?, List.head?_cons, List.tail_cons, List.isEmpty_nil, cond_true, cond_false, Option.isNone_some, Option.isNone_none, Bool.not_true, Bool.not_false, decide_true, decide_false, beq_self_eq_true, bne_self_eq_false, Int.reduceBEq, Int.reduceBNe, Int.cast_ofNat_Int] at hE1
  rw [c7', Option.bind_some] at hE1
  simp only [Option.bind_some, List.getElem?_cons_zero, List.getElem?_cons_succ, int?_int, AVal.bool?, AVal.ptr?, AVal.sl?, AVal.tup?, AVal.agg?, AVal.ifc?, AVal.fn?, AVal.str?, List.head?_cons, List.tail_cons, List.isEmpty_nil, cond_true, cond_false, Option.isNone_some, Option.isNone_none, Bool.not_true, Bool.not_false, decide_true, decide_false, beq_self_eq_true, bne_self_eq_false, Int.reduceBEq, Int.reduceBNe, Int.cast_ofNat_Int] at hE1
  rw [s7, c8, Option.bind_some] at hE1
  simp only [Option.bind_some, List.getElem?_cons_zero, List.getElem?_cons_succ, int?_int, AVal.bool?, AVal.ptr?, AVal.sl?, AVal.tup?, AVal.agg?, AVal.ifc?, AVal.fn?, AVal.str?, List.head?_cons, List.tail_cons, List.isEmpty_nil, cond_true, cond_false, Option.isNone_some, Option.isNone_none, Bool.not_true, Bool.not_false, decide_true, decide_false, beq_self_eq_true, bne_self_eq_false, Int.reduceBEq, Int.reduceBNe, Int.cast_ofNat_Int] at hE1
  rw [c9', Option.bind_some] at hE1
  simp only [Option.bind_some, List.getElem?_cons_zero, List.getElem?_cons_succ, int?_int, AVal.bool?, AVal.ptr?, AVal.sl?, AVal.tup?, AVal.agg?, AVal.ifc?, AVal.fn?, AVal.str?, List.head?_cons, List.tail_cons, List.isEmpty_nil, cond_true, cond_false, Option.isNone_some, Option.isNone_none, Bool.not_true, Bool.not_false, decide_true, decide_false, beq_self_eq_true, bne_self_eq_false, Int.reduceBEq, Int.reduceBNe, Int.cast_ofNat_Int] at hE1
  rw [c10', Option.bind_some] at hE1
  simp only [Option.bind_some, List.getElem?_cons_zero, List.getElem?_cons_succ, int?_int, AVal.bool?, AVal.ptr?, AVal.sl?, AVal.tup?, AVal.agg?, AVal.ifc?, AVal.fn?, AVal.str?, List.head?_cons, List.tail_cons, List.isEmpty_nil, cond_true, cond_false, Option.isNone_some, Option.isNone_none, Bool.not_true, Bool.not_false, decide_true, decide_false, beq_self_eq_true, bne_self_eq_false, Int.reduceBEq, Int.reduceBNe, Int.cast_ofNat_Int] at hE1
  rw [c11', Option.bind_some] at hE1
  simp only [Option.bind_some, List.getElem?_cons_zero, List.getElem?_cons_succ, int?_int, AVal.bool?, AVal.ptr?, AVal.sl?, AVal.tup?, AVal.agg?, AVal.ifc?, AVal.fn?, AVal.str?, List.head?_cons, List.tail_cons, List.isEmpty_nil, cond_true, cond_false, Option.isNone_some, Option.isNone_none, Bool.not_true, Bool.not_false, decide_true, decide_false, beq_self_eq_true, bne_self_eq_false, Int.reduceBEq, Int.reduceBNe, Int.cast_ofNat_Int] at hE1
  rw [c12', Option.bind_some] at hE1
  simp only [Option.bind_some, List.getElem?_cons_zero, List.getElem?_cons_succ, int?_int, AVal.bool?, AVal.ptr?, AVal.sl?, AVal.tup?, AVal.agg?, AVal.ifc?, AVal.fn?, AVal.str?, List.head?_cons, List.tail_cons, List.isEmpty_nil, cond_true, cond_false, Option.isNone_some, Option.isNone_none, Bool.not_true, Bool.not_false, decide_true, decide_false, beq_self_eq_true, bne_self_eq_false, Int.reduceBEq, Int.reduceBNe, Int.cast_ofNat_Int] at hE1
  exact ⟨M12, c7 (hE.trans (t1.trans hE1))⟩
theorem TableNames_law : ∀ avs M, M.Whole → okL M.n avs → ShowsArgs M [] avs → ∃ M', C 7 avs M = some (.bool true, M') := by
  intro avs M hM hok h
  simp only [ShowsArgs] at h
  subst h
  exact TableNames_C
end Go.Proofs.Ytlglggcheffoeaa.M
