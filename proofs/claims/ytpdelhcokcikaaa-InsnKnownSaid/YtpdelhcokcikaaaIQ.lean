/- The laws of insn: uses. -/
import Derived.Test.YtpdelhcokcikaaaIB
set_option linter.unusedVariables false
set_option linter.unusedSimpArgs false
set_option linter.unnecessarySimpa false
set_option maxRecDepth 100000
namespace Go.Proofs.Ytpdelhcokcikaaa.M
open Go.Abs

theorem nums_le (f : Nat → Bool) (i d : Nat) : (nums f i d).length ≤ d := by
  unfold nums
  rw [List.length_map]
  have := List.length_filter_le f (List.range' i d)
  simpa using this
theorem nums_mem {f : Nat → Bool} {i d : Nat} {x : Int} (h : x ∈ nums f i d) : (i : Int) ≤ x ∧ x < i + d := by
  unfold nums at h
  obtain ⟨k, hk, rfl⟩ := List.mem_map.1 h
  have := (List.mem_range'_1.1 (List.mem_filter.1 hk).1)
  omega
theorem nums_lt (f : Nat → Bool) (i d : Nat) : (nums f i d).Pairwise (· < ·) := by
  unfold nums
  rw [List.pairwise_map]
  have h : (List.range' i d).Pairwise (· < ·) := List.pairwise_lt_range'
  exact (h.filter f).imp (fun h => by omega)
section
variable {M : Mem} {op : Nat} {d s o i : Int}
theorem regs_le : (regs op d s o i).length ≤ 10 := by
  unfold regs
  cases okB op d s o i
  · simp
  · exact nums_le _ _ _
theorem regs_mem {x : Int} (h : x ∈ regs op d s o i) : 0 ≤ x ∧ x ≤ 9 := by
  unfold regs at h
  cases hok : okB op d s o i
  · rw [hok] at h; simp at h
  · rw [hok] at h
    have := nums_mem h
    omega
theorem regs_lt : (regs op d s o i).Pairwise (· < ·) := by
  unfold regs
  cases okB op d s o i
  · exact List.Pairwise.nil
  · exact nums_lt _ _ _
theorem still_fix {M : Mem} {o : Nat} {cs : List AVal} (h : M.get o = some ⟨cs, .fixed⟩) : M.still o 0 cs = true := by
  have hr : M.raw o 0 cs.length = some cs := raw_iff.2 ⟨cs, by unfold Mem.cells; rw [h]; rfl, by omega, by simp⟩
  unfold Mem.still
  rw [hr]
  exact sameL_refl _
theorem uses_loop {v1 v2 v3 : SlV} {rs : List Int} (h10 : rs.length ≤ 10) (hap2 : Apart (fpS v1) (fpS v2)) (hap3 : Apart (fpS v1) (fpS v3)) :
    ∀ (d j : Nat) (M : Mem) (xs : List Int), j + d = v1.2.1 → OwnK .i64 M v1 xs → OwnK .i64 M v2 rs → OwnK .i64 M v3 rs → v1.2.1 ≤ 10 →
    ∃ M', p5_2 C prog.meth v1.1 v1.2.1 v1.2.2 v2.1 v2.2.1 v2.2.2 v3.1 v3.2.1 v3.2.2 j M = some (.bool true, M') := by
  intro d
  induction d with
  | zero =>
    intro j M xs hj h1 h2 h3 hl
    have hE := p5_2_eq C prog.meth v1.1 v1.2.1 v1.2.2 v2.1 v2.2.1 v2.2.2 v3.1 v3.2.1 v3.2.2 j M
    have c1 : ¬ ((j : Int) < (v1.2.1 : Int)) := by omega
    have hq := EqInts_C h2.ints h3.ints (by have := h2.1; omega)
    obtain ⟨Mw, cw⟩ := works_C
    simp only [c1, hq, cw, Option.bind_some, List.getElem?_cons_zero, List.getElem?_cons_succ, int?_int, AVal.bool?, AVal.ptr?, AVal.sl?, AVal.tup?, AVal.agg?, AVal.ifc?, AVal.fn?, AVal.str?, List.head?_cons, List.tail_cons, List.isEmpty_nil, cond_true, cond_false, Option.isNone_some, Option.isNone_none, Bool.not_true, Bool.not_false, decide_true, decide_false, beq_self_eq_true, bne_self_eq_false, Int.reduceBEq, Int.reduceBNe, Int.cast_ofNat_Int] at hE
    exact ⟨_, hE⟩
  | succ d ih =>
    intro j M xs hj h1 h2 h3 hl
    have hE := p5_2_eq C prog.meth v1.1 v1.2.1 v1.2.2 v2.1 v2.2.1 v2.2.2 v3.1 v3.2.1 v3.2.2 j M
    have c1 : ((j : Int) < (v1.2.1 : Int)) := by omega
    have c0 : (0 : Int) ≤ (j : Int) := by omega
    have c2 : Nat.blt j v1.2.1 = true := Mem.blt_iff.2 (by omega)
    have hw : IntKind.wrap .i64 ((j : Int) + 1) = ((j + 1 : Nat) : Int) := by rw [wrap_i64 (by omega) (by omega)]; rfl
    obtain ⟨q, M2, e1, e2, e3, e4, e5, e6⟩ := h1.set (i := j) (by omega) (-1)
    have hp : ((q, 0) : Nat × Nat).2 + j * 1 = j := by simp
    simp only [c1, c0, c2, decide_true, cond_true, Int.toNat_natCast, e1, Option.bind_some, Nat.mul_one, Nat.zero_add, e3, hw] at hE
    have a2 : ∀ x ∈ fpS v2, M2.get x = M.get x := fun x hx => e6.2 x (h2.lt x hx) (fun e => hap2 x (by rw [e2, e]; simp) hx)
    have a3 : ∀ x ∈ fpS v3, M2.get x = M.get x := fun x hx => e6.2 x (h3.lt x hx) (fun e => hap3 x (by rw [e2, e]; simp) hx)
    obtain ⟨M', r1⟩ := ih (j + 1) M2 _ (by omega) e4 (h2.same a2) (h3.same a3) hl
    exact ⟨M', hE.trans r1⟩
theorem InsnUses_C (h : InsnR op d s o i) : ∃ M', C 5 [insnA op d s o i] M = some (.bool true, M') := by
  have hE := p5_0_eq C prog.meth op d s o i M
  obtain ⟨M1, e1, g1, u1, n1⟩ := alloc_at M ⟨[.int .u8 (op : Int), .int .u8 d, .int .u8 s, .int .i16 o, .int .i32 i], .fixed⟩
  rw [e1] at hE
  obtain ⟨M2, v1, q1, u2, o1, f1⟩ := Reads_C (M := M1) h
  obtain ⟨M3, v2, q2, u3, o2, f2⟩ := Reads_C (M := M2) h
  obtain ⟨M4, v3, q3, u4, o3, f3⟩ := RReads_C (M := M3) h
  have g2 := u2.get g1
  have g3 := u3.get g2
  have g4 := u4.get g3
  obtain ⟨Ma, ca, _⟩ := Writes_C (M := Mem.empty) h
  obtain ⟨Mb, cb, _⟩ := RWrites_C (M := Mem.empty) h
  have o14 := (o1.upto u3).upto u4
  have o24 := o2.upto u4
  have hl1 := o1.1
  have hle := regs_le (op := op) (d := d) (s := s) (o := o) (i := i)
  have hq := EqInts_C o14.ints o3.ints (by omega)
  rw [decide_eq_true rfl] at hq
  simp only [ldI_at g1, Option.bind_some, List.getElem?_cons_zero, List.getElem?_cons_succ, int?_int, AVal.bool?, AVal.ptr?, AVal.sl?, AVal.tup?, AVal.agg?, AVal.ifc?, AVal.fn?, AVal.str?, List.head?_cons, List.tail_cons, List.isEmpty_nil, cond_true, cond_false, Option.isNone_some, Option.isNone_none, Bool.not_true, Bool.not_false, decide_true, decide_false, beq_self_eq_true, bne_self_eq_false, Int.reduceBEq, Int.reduceBNe, Int.cast_ofNat_Int] at hE
  rw [q1, Option.bind_some] at hE
  simp only [ldI_at g2, Option.bind_some, List.getElem?_cons_zero, List.getElem?_cons_succ, int?_int, AVal.bool?, AVal.ptr?, AVal.sl?, AVal.tup?, AVal.agg?, AVal.ifc?, AVal.fn?, AVal.str?, List.head?_cons, List.tail_cons, List.isEmpty_nil, cond_true, cond_false, Option.isNone_some, Option.isNone_none, Bool.not_true, Bool.not_false, decide_true, decide_false, beq_self_eq_true, bne_self_eq_false, Int.reduceBEq, Int.reduceBNe, Int.cast_ofNat_Int] at hE
  rw [q2, Option.bind_some] at hE
  simp only [Option.bind_some, List.getElem?_cons_zero, List.getElem?_cons_succ, int?_int, AVal.bool?, AVal.ptr?, AVal.sl?, AVal.tup?, AVal.agg?, AVal.ifc?, AVal.fn?, AVal.str?, List.head?_cons, List.tail_cons, List.isEmpty_nil, cond_true, cond_false, Option.isNone_some, Option.isNone_none, Bool.not_true, Bool.not_false, decide_true, decide_false, beq_self_eq_true, bne_self_eq_false, Int.reduceBEq, Int.reduceBNe, Int.cast_ofNat_Int, still_fix g1, ldI_at g3] at hE
  rw [q3, Option.bind_some] at hE
  simp only [Option.bind_some, List.getElem?_cons_zero, List.getElem?_cons_succ, int?_int, AVal.bool?, AVal.ptr?, AVal.sl?, AVal.tup?, AVal.agg?, AVal.ifc?, AVal.fn?, AVal.str?, List.head?_cons, List.tail_cons, List.isEmpty_nil, cond_true, cond_false, Option.isNone_some, Option.isNone_none, Bool.not_true, Bool.not_false, decide_true, decide_false, beq_self_eq_true, bne_self_eq_false, Int.reduceBEq, Int.reduceBNe, Int.cast_ofNat_Int, ldI_at g4] at hE
  rw [ca, Option.bind_some] at hE
  simp only [Option.bind_some, List.getElem?_cons_zero, List.getElem?_cons_succ, int?_int, AVal.bool?, AVal.ptr?, AVal.sl?, AVal.tup?, AVal.agg?, AVal.ifc?, AVal.fn?, AVal.str?, List.head?_cons, List.tail_cons, List.isEmpty_nil, cond_true, cond_false, Option.isNone_some, Option.isNone_none, Bool.not_true, Bool.not_false, decide_true, decide_false, beq_self_eq_true, bne_self_eq_false, Int.reduceBEq, Int.reduceBNe, Int.cast_ofNat_Int] at hE
  rw [cb, Option.bind_some] at hE
  simp only [Option.bind_some, List.getElem?_cons_zero, List.getElem?_cons_succ, int?_int, AVal.bool?, AVal.ptr?, AVal.sl?, AVal.tup?, AVal.agg?, AVal.ifc?, AVal.fn?, AVal.str?, List.head?_cons, List.tail_cons, List.isEmpty_nil, cond_true, cond_false, Option.isNone_some, Option.isNone_none, Bool.not_true, Bool.not_false, decide_true, decide_false, beq_self_eq_true, bne_self_eq_false, Int.reduceBEq, Int.reduceBNe, Int.cast_ofNat_Int] at hE
  rw [hq, Option.bind_some] at hE
  simp only [Option.bind_some, List.getElem?_cons_zero, List.getElem?_cons_succ, int?_int, AVal.bool?, AVal.ptr?, AVal.sl?, AVal.tup?, AVal.agg?, AVal.ifc?, AVal.fn?, AVal.str?, List.head?_cons, List.tail_cons, List.isEmpty_nil, cond_true, cond_false, Option.isNone_some, Option.isNone_none, Bool.not_true, Bool.not_false, decide_true, decide_false, beq_self_eq_true, bne_self_eq_false, Int.reduceBEq, Int.reduceBNe, Int.cast_ofNat_Int] at hE
  rw [p5_1_eq] at hE
  have ap2 : Apart (fpS v1) (fpS v2) := fun x hx hx2 => by have := o1.lt x hx; have := f2 x hx2; omega
  have ap3 : Apart (fpS v1) (fpS v3) := fun x hx hx2 => by have := (o1.upto u3).lt x hx; have := f3 x hx2; omega
  obtain ⟨M', r⟩ := uses_loop hle ap2 ap3 v1.2.1 0 M4 _ (by omega) o14 o24 o3 (by omega)
  exact ⟨M', c5 (hE.trans r)⟩
end
theorem InsnUses_law : ∀ avs M, M.Whole → okL M.n avs → ShowsArgs M [(true, [.int .u8, .int .u8, .int .u8, .int .i16, .int .i32])] avs → ∃ M', C 5 avs M = some (.bool true, M') := by
  intro avs M hM hok h
  simp only [ShowsArgs] at h
  obtain ⟨v, _, rfl, hv, rfl⟩ := h
  obtain ⟨op, d, s, o, i, rfl, hR⟩ := insn_arg hv
  exact InsnUses_C hR
end Go.Proofs.Ytpdelhcokcikaaa.M
