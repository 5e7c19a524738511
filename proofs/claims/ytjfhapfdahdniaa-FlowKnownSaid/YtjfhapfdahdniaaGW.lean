/- The package flow: the chapter's program. -/
import Derived.Test.YtjfhapfdahdniaaGX
set_option linter.unusedVariables false
set_option linter.unusedSimpArgs false
set_option linter.unnecessarySimpa false
set_option maxRecDepth 100000
namespace Go.Proofs.Ytjfhapfdahdniaa.M
open Go.Abs Go.RowKit

section
variable {M : Mem}
theorem op_C (n : Nat) (M : Mem) : ∃ M', C 17 [.int .u8 (n : Int)] M = some (.agg (encI (n, 0, 0, 0, 0)), M') ∧ M.Upto M' := by
  have hE := p17_0_eq C prog.meth (n : Int) M
  obtain ⟨M', m1, m2, m3, m4⟩ := ibox M ((n, 0, 0, 0, 0) : Ins)
  obtain ⟨r0, r1, r2, r3, r4⟩ := ibox_rd m4
  simp only at m1 r0 r1 r2 r3 r4
  simp only [m1, Option.bind_some, r0, r1, r2, r3, r4] at hE
  exact ⟨M', c17 hE, m2⟩
theorem rep_C (n : Int) (M : Mem) : ∃ M', C 18 [.int .i32 n] M = some (.agg (encI (33, 0, 0, 0, n)), M') ∧ M.Upto M' := by
  have hE := p18_0_eq C prog.meth n M
  obtain ⟨M', m1, m2, m3, m4⟩ := ibox M ((33, 0, 0, 0, n) : Ins)
  obtain ⟨r0, r1, r2, r3, r4⟩ := ibox_rd m4
  simp only [Int.cast_ofNat_Int] at m1 r0 r1 r2 r3 r4
  simp only [m1, Option.bind_some, r0, r1, r2, r3, r4] at hE
  exact ⟨M', c18 hE, m2⟩
theorem jump_C (n : Int) (M : Mem) : ∃ M', C 19 [.int .i16 n] M = some (.agg (encI (22, 0, 0, n, 0)), M') ∧ M.Upto M' := by
  have hE := p19_0_eq C prog.meth n M
  obtain ⟨M', m1, m2, m3, m4⟩ := ibox M ((22, 0, 0, n, 0) : Ins)
  obtain ⟨r0, r1, r2, r3, r4⟩ := ibox_rd m4
  simp only [Int.cast_ofNat_Int] at m1 r0 r1 r2 r3 r4
  simp only [m1, Option.bind_some, r0, r1, r2, r3, r4] at hE
  exact ⟨M', c19 hE, m2⟩
def threeL : List Ins := [(33, 0, 0, 0, 3), (1, 0, 0, 0, 1), (23, 0, 0, 1, 1), (1, 0, 0, 0, 2), (34, 0, 0, 0, 0), (36, 0, 0, 0, 0)]
theorem insR_of {x : Ins} (h : (Nat.blt x.1 256 && decide (0 ≤ x.2.1) && decide (x.2.1 < 256) && decide (0 ≤ x.2.2.1) && decide (x.2.2.1 < 256) && decide (-32768 ≤ x.2.2.2.1) && decide (x.2.2.2.1 < 32768) && decide (-2147483648 ≤ x.2.2.2.2) && decide (x.2.2.2.2 < 2147483648)) = true) : InsR x := by
  simp only [Bool.and_eq_true, decide_eq_true_eq] at h
  obtain ⟨⟨⟨⟨⟨⟨⟨⟨h1, h2⟩, h3⟩, h4⟩, h5⟩, h6⟩, h7⟩, h8⟩, h9⟩ := h
  exact ⟨Mem.blt_iff.1 h1, ⟨h2, h3⟩, ⟨h4, h5⟩, ⟨h6, h7⟩, ⟨h8, h9⟩⟩
theorem allR {xs : List Ins} (h : xs.all (fun x => Nat.blt x.1 256 && decide (0 ≤ x.2.1) && decide (x.2.1 < 256) && decide (0 ≤ x.2.2.1) && decide (x.2.2.1 < 256) && decide (-32768 ≤ x.2.2.2.1) && decide (x.2.2.2.1 < 32768) && decide (-2147483648 ≤ x.2.2.2.2) && decide (x.2.2.2.2 < 2147483648)) = true) : ∀ x ∈ xs, InsR x := fun x hx => insR_of (List.all_eq_true.1 h x hx)
theorem three_C (M : Mem) : ∃ M' v, C 20 [] M = some (.sl (some (v, 0)) 6 (.known 6), M') ∧ M.Upto M' ∧ Sl M' 5 encI (some (v, 0)) 6 (.known 6) threeL := by
  have hE := p20_0_eq C prog.meth M
  obtain ⟨_, r1, -⟩ := rep_C 3 Mem.empty
  obtain ⟨_, r2, -⟩ := op_C 34 Mem.empty
  obtain ⟨_, r3, -⟩ := op_C 36 Mem.empty
  simp only [Int.cast_ofNat_Int] at r1 r2 r3
  simp only [r1, r2, r3, encI, Option.bind_some, List.getElem?_cons_zero, List.getElem?_cons_succ, int?_int, AVal.bool?, AVal.ptr?, AVal.sl?, AVal.tup?, AVal.agg?, AVal.ifc?, AVal.fn?, AVal.str?, List.head?_cons, List.tail_cons, List.isEmpty_nil, cond_true, cond_false, Option.isNone_some, Option.isNone_none, Bool.not_true, Bool.not_false, decide_true, decide_false, beq_self_eq_true, bne_self_eq_false, Int.reduceBEq, Int.reduceBNe, Int.cast_ofNat_Int] at hE
  obtain ⟨M', ea', ga, ua, na⟩ := alloc_at M ⟨threeL.flatMap encI, .fixed⟩
  refine ⟨M', M.n, c20 (hE.trans ?_), ua, ?_⟩
  · rw [← ea']; rfl
  · exact Sl.whole (xs := threeL) (c := .known 6) encI5 ga (by simp) rfl
theorem threeCut (M : Mem) (a : Option (Nat × Nat)) : Cut M a 6 (.known 6) := .inl (.inl ⟨6, rfl, Nat.le_refl _⟩)
theorem threeR : ∀ x ∈ threeL, InsR x := allR rfl
theorem chk3 : chkA threeL = (0, 0) := by decide
theorem steps3 : stepsA threeL = 14 := by decide
theorem lp3 : lpA threeL threeL.length = [(0, 4, 3, 1)] := by decide
theorem nx32 : nextA threeL 2 = ([3, 4], 0) := by decide
theorem nx34 : nextA threeL 4 = ([1, 5], 0) := by decide
theorem works14_C : ∃ M', C 13 [] Mem.empty = some (.bool true, M') := by
  have hE := p13_0_eq C prog.meth Mem.empty
  obtain ⟨M1, o1, a1, a2, a3⟩ := three_C Mem.empty
  obtain ⟨M2, b1, b2⟩ := FCheck_C a3 (threeCut _ _) threeR
  obtain ⟨M3, o3, c1, c2, c3⟩ := three_C M2
  obtain ⟨M4, d1, d2⟩ := Steps_C c3 (threeCut _ _) threeR
  obtain ⟨M5, o5, e1, e2, e3⟩ := three_C M4
  obtain ⟨M6, v6, f1, f2, f3, f4⟩ := Loops_C e3 (threeCut _ _) threeR
  obtain ⟨M7, o7, g1, g2, g3⟩ := three_C M6
  obtain ⟨M8, v8, h1, h2, h3, -⟩ := Next_C g3 (threeCut _ _) threeR 2
  obtain ⟨M9, o9, i1, i2, i3⟩ := three_C M8
  obtain ⟨Ma, va, j1, j2, j3, -⟩ := Next_C i3 (threeCut _ _) threeR 4
  have f4 := f4 (by rw [chk3])
  rw [lp3] at f4
  rw [chk3] at b1 d1 f1
  rw [if_pos rfl, steps3] at d1
  rw [nx32] at h1 h3
  rw [nx34] at j1 j3
  have f5 := f4.upto encLo4 (by omega) (((g2.trans h2).trans i2).trans j2)
  have hv6 : v6.2.1 = 1 := f5.2.symm
  obtain ⟨p, p1, p2⟩ := f5.get encLo4 (by omega) (i := 0) (by omega)
  have q0 : Ma.ldI .i64 p.1 (p.2 + 0 * 4) = some 0 := ldI_ld.2 (p2 0 (by omega))
  have q1 : Ma.ldI .i64 p.1 (p.2 + 0 * 4 + 1) = some 4 := ldI_ld.2 (p2 1 (by omega))
  have q2 : Ma.ldI .i64 p.1 (p.2 + 0 * 4 + 1 + 1) = some 3 := ldI_ld.2 (p2 2 (by omega))
  have q3 : Ma.ldI .i64 p.1 (p.2 + 0 * 4 + 1 + 1 + 1) = some 1 := ldI_ld.2 (p2 3 (by omega))
  obtain ⟨Mb, eb, gb, ub, nb⟩ := alloc_at Ma ⟨[.int .i64 3, .int .i64 4], .fixed⟩
  have k1 : Mb.ints .i64 (some (Ma.n, 0)) 2 (.known 2) = some [3, 4] := ints_whole (xs := [3, 4]) (c := .known 2) (kd := .fixed) gb (by simp) rfl
  have k2 := EqInts_C (ints_upto h3 ((i2.trans j2).trans ub)) k1 (by have := ints_length h3; simp at this; omega)
  obtain ⟨Mc, ec, gc, uc, nc⟩ := alloc_at Mb ⟨[.int .i64 1, .int .i64 5], .fixed⟩
  have k3 : Mc.ints .i64 (some (Mb.n, 0)) 2 (.known 2) = some [1, 5] := ints_whole (xs := [1, 5]) (c := .known 2) (kd := .fixed) gc (by simp) rfl
  have k4 := EqInts_C (ints_upto j3 (ub.trans uc)) k3 (by have := ints_length j3; simp at this; omega)
  have z : Nat.blt 0 1 = true := rfl
  simp only [a1, b1, c1, d1, e1, f1, g1, h1, i1, j1, Option.bind_some, List.getElem?_cons_zero, List.getElem?_cons_succ, int?_int, AVal.bool?, AVal.ptr?, AVal.sl?, AVal.tup?, AVal.agg?, AVal.ifc?, AVal.fn?, AVal.str?, List.head?_cons, List.tail_cons, List.isEmpty_nil, cond_true, cond_false, Option.isNone_some, Option.isNone_none, Bool.not_true, Bool.not_false, decide_true, decide_false, beq_self_eq_true, bne_self_eq_false, Int.reduceBEq, Int.reduceBNe, Int.cast_ofNat_Int] at hE
  simp only [hv6, z, p1, q0, q1, q2, q3, Option.bind_some, List.getElem?_cons_zero, List.getElem?_cons_succ, int?_int, AVal.bool?, AVal.ptr?, AVal.sl?, AVal.tup?, AVal.agg?, AVal.ifc?, AVal.fn?, AVal.str?, List.head?_cons, List.tail_cons, List.isEmpty_nil, cond_true, cond_false, Option.isNone_some, Option.isNone_none, Bool.not_true, Bool.not_false, decide_true, decide_false, beq_self_eq_true, bne_self_eq_false, Int.reduceBEq, Int.reduceBNe, Int.cast_ofNat_Int, Bool.and_self, eb, k2, ec, k4] at hE
  exact ⟨_, c13 hE⟩
end
end Go.Proofs.Ytjfhapfdahdniaa.M
