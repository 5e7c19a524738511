/- PacketNames. -/
import Derived.Test.YtajchmkmlpchkaaKT
set_option linter.unusedVariables false
set_option linter.unusedSimpArgs false
set_option linter.unnecessarySimpa false
set_option maxRecDepth 100000
namespace Go.Proofs.Ytajchmkmlpchkaa.M
open Go.Abs

theorem names_step {x : Option (Nat × Nat)} {i : Nat} {M : Mem} (hN : C 31 [.ptr x] M = some (.bool true, M)) (hi : i < 2) :
    p6_1 C prog.meth x i M = p6_1 C prog.meth (some (M.n, 0)) ((i + 1 : Nat) : Int) (M.alloc ⟨[.bool false, .sl none 0 (.known 0), .int .i64 0, .int .i64 0, .int .i64 0], .fixed⟩) := by
  have hE := p6_1_eq C prog.meth x i M
  have h1 : ((i : Int) < 2) := by omega
  have hw : IntKind.wrap .i64 ((i : Int) + 1) = ((i + 1 : Nat) : Int) := by rw [wrap_i64 (by omega) (by omega)]; rfl
  have k30 : ∀ a s, C 30 [.ptr x, .int .i64 a, .int .i64 s] M = some (.int .i64 1, M) := fun a s => by
    have hE := p30_0_eq C prog.meth x a s M
    simp only [Option.bind_some, List.getElem?_cons_zero, List.getElem?_cons_succ, int?_int, AVal.bool?, AVal.ptr?, AVal.sl?, AVal.tup?, AVal.agg?, AVal.ifc?, AVal.fn?, AVal.str?, List.head?_cons, List.tail_cons, List.isEmpty_nil, cond_true, cond_false, Option.isNone_some, Option.isNone_none, Bool.not_true, Bool.not_false, decide_true, decide_false, beq_self_eq_true, bne_self_eq_false, Int.reduceBEq, Int.reduceBNe, Int.cast_ofNat_Int, hN] at hE
    exact c30 hE
  have k29 : ∀ a, C 29 [.ptr x, .int .i64 a] M = some (.int .i64 1, M) := fun a => by
    have hE := p29_0_eq C prog.meth x a M
    simp only [Option.bind_some, List.getElem?_cons_zero, List.getElem?_cons_succ, int?_int, AVal.bool?, AVal.ptr?, AVal.sl?, AVal.tup?, AVal.agg?, AVal.ifc?, AVal.fn?, AVal.str?, List.head?_cons, List.tail_cons, List.isEmpty_nil, cond_true, cond_false, Option.isNone_some, Option.isNone_none, Bool.not_true, Bool.not_false, decide_true, decide_false, beq_self_eq_true, bne_self_eq_false, Int.reduceBEq, Int.reduceBNe, Int.cast_ofNat_Int, hN] at hE
    exact c29 hE
  have k23 : C 23 [.ptr x] M = some (.sl none 0 (.known 0), M) := by
    have hE := p23_0_eq C prog.meth x M
    simp only [Option.bind_some, List.getElem?_cons_zero, List.getElem?_cons_succ, int?_int, AVal.bool?, AVal.ptr?, AVal.sl?, AVal.tup?, AVal.agg?, AVal.ifc?, AVal.fn?, AVal.str?, List.head?_cons, List.tail_cons, List.isEmpty_nil, cond_true, cond_false, Option.isNone_some, Option.isNone_none, Bool.not_true, Bool.not_false, decide_true, decide_false, beq_self_eq_true, bne_self_eq_false, Int.reduceBEq, Int.reduceBNe, Int.cast_ofNat_Int, hN] at hE
    exact c23 hE
  have kc : C 32 [.sl none 0 (.known 0)] M = some (.sl none 0 (.known 0), M) := by
    have hE := p32_0_eq C prog.meth none 0 (.known 0) M
    simp only [Option.isNone_none, cond_true] at hE
    exact c32 hE
  have k17 : C 17 [.ptr x, .int .i64 0, .int .i64 9] M = some (.tup [.int .u64 0, .int .i64 1], M) := by
    have hE := p17_0_eq C prog.meth x 0 9 M
    simp only [Option.bind_some, List.getElem?_cons_zero, List.getElem?_cons_succ, int?_int, AVal.bool?, AVal.ptr?, AVal.sl?, AVal.tup?, AVal.agg?, AVal.ifc?, AVal.fn?, AVal.str?, List.head?_cons, List.tail_cons, List.isEmpty_nil, cond_true, cond_false, Option.isNone_some, Option.isNone_none, Bool.not_true, Bool.not_false, decide_true, decide_false, beq_self_eq_true, bne_self_eq_false, Int.reduceBEq, Int.reduceBNe, Int.cast_ofNat_Int, k30] at hE
    exact c17 hE
  have k22 : C 22 [.ptr x] M = some (.tup [.int .i64 0, .int .i64 0], M) := by
    have hE := p22_0_eq C prog.meth x M
    simp only [Option.bind_some, List.getElem?_cons_zero, List.getElem?_cons_succ, int?_int, AVal.bool?, AVal.ptr?, AVal.sl?, AVal.tup?, AVal.agg?, AVal.ifc?, AVal.fn?, AVal.str?, List.head?_cons, List.tail_cons, List.isEmpty_nil, cond_true, cond_false, Option.isNone_some, Option.isNone_none, Bool.not_true, Bool.not_false, decide_true, decide_false, beq_self_eq_true, bne_self_eq_false, Int.reduceBEq, Int.reduceBNe, Int.cast_ofNat_Int, hN] at hE
    exact c22 hE
  have k21 : C 21 [.ptr x] M = some (.int .i64 0, M) := by
    have hE := p21_0_eq C prog.meth x M
    simp only [Option.bind_some, List.getElem?_cons_zero, List.getElem?_cons_succ, int?_int, AVal.bool?, AVal.ptr?, AVal.sl?, AVal.tup?, AVal.agg?, AVal.ifc?, AVal.fn?, AVal.str?, List.head?_cons, List.tail_cons, List.isEmpty_nil, cond_true, cond_false, Option.isNone_some, Option.isNone_none, Bool.not_true, Bool.not_false, decide_true, decide_false, beq_self_eq_true, bne_self_eq_false, Int.reduceBEq, Int.reduceBNe, Int.cast_ofNat_Int, hN] at hE
    exact c21 hE
  have k19 : C 19 [.ptr x] M = some (.int .i64 0, M) := by
    have hE := p19_0_eq C prog.meth x M
    simp only [Option.bind_some, List.getElem?_cons_zero, List.getElem?_cons_succ, int?_int, AVal.bool?, AVal.ptr?, AVal.sl?, AVal.tup?, AVal.agg?, AVal.ifc?, AVal.fn?, AVal.str?, List.head?_cons, List.tail_cons, List.isEmpty_nil, cond_true, cond_false, Option.isNone_some, Option.isNone_none, Bool.not_true, Bool.not_false, decide_true, decide_false, beq_self_eq_true, bne_self_eq_false, Int.reduceBEq, Int.reduceBNe, Int.cast_ofNat_Int, hN] at hE
    exact c19 hE
  have k20 : C 20 [.ptr x] M = some (.sl none 0 (.known 0), M) := by
    have hE := p20_0_eq C prog.meth x M
    simp only [Option.bind_some, List.getElem?_cons_zero, List.getElem?_cons_succ, int?_int, AVal.bool?, AVal.ptr?, AVal.sl?, AVal.tup?, AVal.agg?, AVal.ifc?, AVal.fn?, AVal.str?, List.head?_cons, List.tail_cons, List.isEmpty_nil, cond_true, cond_false, Option.isNone_some, Option.isNone_none, Bool.not_true, Bool.not_false, decide_true, decide_false, beq_self_eq_true, bne_self_eq_false, Int.reduceBEq, Int.reduceBNe, Int.cast_ofNat_Int, k23, kc] at hE
    exact c20 hE
  have k15 : C 15 [.ptr x, .int .i64 0] M = some (.int .i64 1, M) := by
    have hE := p15_0_eq C prog.meth x 0 M
    simp only [Option.bind_some, List.getElem?_cons_zero, List.getElem?_cons_succ, int?_int, AVal.bool?, AVal.ptr?, AVal.sl?, AVal.tup?, AVal.agg?, AVal.ifc?, AVal.fn?, AVal.str?, List.head?_cons, List.tail_cons, List.isEmpty_nil, cond_true, cond_false, Option.isNone_some, Option.isNone_none, Bool.not_true, Bool.not_false, decide_true, decide_false, beq_self_eq_true, bne_self_eq_false, Int.reduceBEq, Int.reduceBNe, Int.cast_ofNat_Int, k29] at hE
    exact c15 hE
  have k16 : C 16 [.ptr x, .int .i64 0] M = some (.int .i64 1, M) := by
    have hE := p16_0_eq C prog.meth x 0 M
    simp only [Option.bind_some, List.getElem?_cons_zero, List.getElem?_cons_succ, int?_int, AVal.bool?, AVal.ptr?, AVal.sl?, AVal.tup?, AVal.agg?, AVal.ifc?, AVal.fn?, AVal.str?, List.head?_cons, List.tail_cons, List.isEmpty_nil, cond_true, cond_false, Option.isNone_some, Option.isNone_none, Bool.not_true, Bool.not_false, decide_true, decide_false, beq_self_eq_true, bne_self_eq_false, Int.reduceBEq, Int.reduceBNe, Int.cast_ofNat_Int, k29] at hE
    exact c16 hE
  have k18 : C 18 [.ptr x, .int .i64 0, .int .i64 9, .int .u64 0] M = some (.int .i64 1, M) := by
    have hE := p18_0_eq C prog.meth x 0 9 0 M
    simp only [Option.bind_some, List.getElem?_cons_zero, List.getElem?_cons_succ, int?_int, AVal.bool?, AVal.ptr?, AVal.sl?, AVal.tup?, AVal.agg?, AVal.ifc?, AVal.fn?, AVal.str?, List.head?_cons, List.tail_cons, List.isEmpty_nil, cond_true, cond_false, Option.isNone_some, Option.isNone_none, Bool.not_true, Bool.not_false, decide_true, decide_false, beq_self_eq_true, bne_self_eq_false, Int.reduceBEq, Int.reduceBNe, Int.cast_ofNat_Int, k30] at hE
    exact c18 hE
  have z0 : (((0 : Nat) : Int) != 0) = false := rfl
  simp only [Option.bind_some, List.getElem?_cons_zero, List.getElem?_cons_succ, int?_int, AVal.bool?, AVal.ptr?, AVal.sl?, AVal.tup?, AVal.agg?, AVal.ifc?, AVal.fn?, AVal.str?, List.head?_cons, List.tail_cons, List.isEmpty_nil, cond_true, cond_false, Option.isNone_some, Option.isNone_none, Bool.not_true, Bool.not_false, decide_true, decide_false, beq_self_eq_true, bne_self_eq_false, Int.reduceBEq, Int.reduceBNe, Int.cast_ofNat_Int, h1, k17, k22, k21, k19, k20, k23, k15, k16, k18, hw, z0] at hE
  exact hE
theorem row5 {M : Mem} {a b c d e : Int} (ha : (Lit.int .i64 a).wf = true) (hb : (Lit.int .i64 b).wf = true) (hc : (Lit.int .i64 c).wf = true) (hd : (Lit.int .i64 d).wf = true) (he : (Lit.int .u64 e).wf = true) :
    ShowsR M [.int .i64, .int .i64, .int .i64, .int .i64, .int .u64] [.int .i64 a, .int .i64 b, .int .i64 c, .int .i64 d, .int .u64 e] := by
  simp only [ShowsR, Shows]
  exact ⟨_, _, rfl, ⟨_, rfl, ha⟩, _, _, rfl, ⟨_, rfl, hb⟩, _, _, rfl, ⟨_, rfl, hc⟩, _, _, rfl, ⟨_, rfl, hd⟩, _, _, rfl, ⟨_, rfl, he⟩, rfl⟩
theorem calls_rows {M : Mem} {o : Nat} (hg : M.get o = some ⟨AVal.int .i64 0 :: AVal.int .i64 0 :: AVal.int .i64 0 :: AVal.int .i64 0 :: AVal.int .u64 0 :: AVal.int .i64 0 :: AVal.int .i64 1 :: AVal.int .i64 0 :: AVal.int .i64 0 :: AVal.int .u64 0 :: AVal.int .i64 0 :: AVal.int .i64 (-2049) :: AVal.int .i64 0 :: AVal.int .i64 0 :: AVal.int .u64 0 :: AVal.int .i64 0 :: AVal.int .i64 9223372036854775807 :: AVal.int .i64 0 :: AVal.int .i64 0 :: AVal.int .u64 0 :: AVal.int .i64 0 :: AVal.int .i64 (-9223372036854775808) :: AVal.int .i64 0 :: AVal.int .i64 0 :: AVal.int .u64 0 :: AVal.int .i64 1 :: AVal.int .i64 9223372036854775807 :: AVal.int .i64 0 :: AVal.int .i64 0 :: AVal.int .u64 0 :: AVal.int .i64 1 :: AVal.int .i64 (-9223372036854775808) :: AVal.int .i64 0 :: AVal.int .i64 0 :: AVal.int .u64 0 :: AVal.int .i64 2 :: AVal.int .i64 0 :: AVal.int .i64 2047 :: AVal.int .i64 1 :: AVal.int .u64 0 :: AVal.int .i64 2 :: AVal.int .i64 0 :: AVal.int .i64 2041 :: AVal.int .i64 8 :: AVal.int .u64 0 :: AVal.int .i64 2 :: AVal.int .i64 0 :: AVal.int .i64 2040 :: AVal.int .i64 8 :: AVal.int .u64 0 :: AVal.int .i64 2 :: AVal.int .i64 0 :: AVal.int .i64 9223372036854775807 :: AVal.int .i64 8 :: AVal.int .u64 0 :: AVal.int .i64 2 :: AVal.int .i64 0 :: AVal.int .i64 (-9223372036854775808) :: AVal.int .i64 1 :: AVal.int .u64 0 :: AVal.int .i64 3 :: AVal.int .i64 0 :: AVal.int .i64 0 :: AVal.int .i64 9 :: AVal.int .u64 0 :: AVal.int .i64 3 :: AVal.int .i64 0 :: AVal.int .i64 2040 :: AVal.int .i64 8 :: AVal.int .u64 18446744073709551615 :: AVal.int .i64 0 :: AVal.int .i64 (-2048) :: AVal.int .i64 0 :: AVal.int .i64 0 :: AVal.int .u64 0 :: AVal.int .i64 0 :: AVal.int .i64 257 :: AVal.int .i64 0 :: AVal.int .i64 0 :: AVal.int .u64 0 :: AVal.int .i64 5 :: AVal.int .i64 0 :: AVal.int .i64 0 :: AVal.int .i64 0 :: AVal.int .u64 0 :: AVal.int .i64 1 :: AVal.int .i64 1791 :: AVal.int .i64 0 :: AVal.int .i64 0 :: AVal.int .u64 0 :: AVal.int .i64 1 :: AVal.int .i64 1 :: AVal.int .i64 0 :: AVal.int .i64 0 :: AVal.int .u64 0 :: [], .fixed⟩) : ArgRows M [.int .i64, .int .i64, .int .i64, .int .i64, .int .u64] (some (o, 0)) 19 (.known 19) := by
  refine ArgRows.of hg (by simp) rfl (fun j hj => ?_)
  have : j = 0 ∨ j = 1 ∨ j = 2 ∨ j = 3 ∨ j = 4 ∨ j = 5 ∨ j = 6 ∨ j = 7 ∨ j = 8 ∨ j = 9 ∨ j = 10 ∨ j = 11 ∨ j = 12 ∨ j = 13 ∨ j = 14 ∨ j = 15 ∨ j = 16 ∨ j = 17 ∨ j = 18 := by omega
  rcases this with rfl | rfl | rfl | rfl | rfl | rfl | rfl | rfl | rfl | rfl | rfl | rfl | rfl | rfl | rfl | rfl | rfl | rfl | rfl <;> exact row5 (by decide) (by decide) (by decide) (by decide) (by decide)
theorem PacketNames_C {M : Mem} : ∃ M', C 6 [] M = some (.bool true, M') := by
  obtain ⟨Ma, hawake⟩ := awake03_C
  have n0 : C 31 [.ptr none] M = some (.bool true, M) := by
    have hE := p31_0_eq C prog.meth none M
    simp only [Option.isNone_none, cond_true] at hE
    exact c31 hE
  have n1 : ∀ M : Mem, C 31 [.ptr (some (M.n, 0))] (M.alloc ⟨[.bool false, .sl none 0 (.known 0), .int .i64 0, .int .i64 0, .int .i64 0], .fixed⟩) = some (.bool true, M.alloc ⟨[.bool false, .sl none 0 (.known 0), .int .i64 0, .int .i64 0, .int .i64 0], .fixed⟩) := fun M => by
    have hE := p31_0_eq C prog.meth (some (M.n, 0)) (M.alloc ⟨[.bool false, .sl none 0 (.known 0), .int .i64 0, .int .i64 0, .int .i64 0], .fixed⟩)
    have hg := get_alloc_self M ⟨[.bool false, .sl none 0 (.known 0), .int .i64 0, .int .i64 0, .int .i64 0], .fixed⟩
    have l0 : (M.alloc ⟨[.bool false, .sl none 0 (.known 0), .int .i64 0, .int .i64 0, .int .i64 0], .fixed⟩).ldB M.n 0 = some false := by unfold Mem.ldB; rw [ld_fix hg]; rfl
    simp only [Option.bind_some, List.getElem?_cons_zero, List.getElem?_cons_succ, int?_int, AVal.bool?, AVal.ptr?, AVal.sl?, AVal.tup?, AVal.agg?, AVal.ifc?, AVal.fn?, AVal.str?, List.head?_cons, List.tail_cons, List.isEmpty_nil, cond_true, cond_false, Option.isNone_some, Option.isNone_none, Bool.not_true, Bool.not_false, decide_true, decide_false, beq_self_eq_true, bne_self_eq_false, Int.reduceBEq, Int.reduceBNe, Int.cast_ofNat_Int, Nat.zero_add, l0] at hE
    exact c31 hE
  have s1 := names_step (i := 0) n0 (by omega)
  have s2 := names_step (i := 1) (n1 M) (by omega)
  generalize M.alloc ⟨[.bool false, .sl none 0 (.known 0), .int .i64 0, .int .i64 0, .int .i64 0], .fixed⟩ = M1 at s1 s2
  generalize M1.alloc ⟨[.bool false, .sl none 0 (.known 0), .int .i64 0, .int .i64 0, .int .i64 0], .fixed⟩ = M2 at s2
  have hE := p6_1_eq C prog.meth (some (M1.n, 0)) ((1 + 1 : Nat) : Int) M2
  have h1 : ¬ (((1 + 1 : Nat) : Int) < 2) := by omega
  have u3 := Mem.Upto.alloc M2 ⟨replZ [.int .u8 0] 2049, .fixed⟩
  have g3 := get_alloc_self M2 ⟨replZ [.int .u8 0] 2049, .fixed⟩
  have n3 : (M2.alloc ⟨replZ [.int .u8 0] 2049, .fixed⟩).n = M2.n + 1 := rfl
  generalize M2.alloc ⟨replZ [.int .u8 0] 2049, .fixed⟩ = M3 at hE u3 g3 n3
  have u4 := Mem.Upto.alloc M3 ⟨AVal.int .i64 0 :: AVal.int .i64 0 :: AVal.int .i64 0 :: AVal.int .i64 0 :: AVal.int .u64 0 :: AVal.int .i64 0 :: AVal.int .i64 1 :: AVal.int .i64 0 :: AVal.int .i64 0 :: AVal.int .u64 0 :: AVal.int .i64 0 :: AVal.int .i64 (-2049) :: AVal.int .i64 0 :: AVal.int .i64 0 :: AVal.int .u64 0 :: AVal.int .i64 0 :: AVal.int .i64 9223372036854775807 :: AVal.int .i64 0 :: AVal.int .i64 0 :: AVal.int .u64 0 :: AVal.int .i64 0 :: AVal.int .i64 (-9223372036854775808) :: AVal.int .i64 0 :: AVal.int .i64 0 :: AVal.int .u64 0 :: AVal.int .i64 1 :: AVal.int .i64 9223372036854775807 :: AVal.int .i64 0 :: AVal.int .i64 0 :: AVal.int .u64 0 :: AVal.int .i64 1 :: AVal.int .i64 (-9223372036854775808) :: AVal.int .i64 0 :: AVal.int .i64 0 :: AVal.int .u64 0 :: AVal.int .i64 2 :: AVal.int .i64 0 :: AVal.int .i64 2047 :: AVal.int .i64 1 :: AVal.int .u64 0 :: AVal.int .i64 2 :: AVal.int .i64 0 :: AVal.int .i64 2041 :: AVal.int .i64 8 :: AVal.int .u64 0 :: AVal.int .i64 2 :: AVal.int .i64 0 :: AVal.int .i64 2040 :: AVal.int .i64 8 :: AVal.int .u64 0 :: AVal.int .i64 2 :: AVal.int .i64 0 :: AVal.int .i64 9223372036854775807 :: AVal.int .i64 8 :: AVal.int .u64 0 :: AVal.int .i64 2 :: AVal.int .i64 0 :: AVal.int .i64 (-9223372036854775808) :: AVal.int .i64 1 :: AVal.int .u64 0 :: AVal.int .i64 3 :: AVal.int .i64 0 :: AVal.int .i64 0 :: AVal.int .i64 9 :: AVal.int .u64 0 :: AVal.int .i64 3 :: AVal.int .i64 0 :: AVal.int .i64 2040 :: AVal.int .i64 8 :: AVal.int .u64 18446744073709551615 :: AVal.int .i64 0 :: AVal.int .i64 (-2048) :: AVal.int .i64 0 :: AVal.int .i64 0 :: AVal.int .u64 0 :: AVal.int .i64 0 :: AVal.int .i64 257 :: AVal.int .i64 0 :: AVal.int .i64 0 :: AVal.int .u64 0 :: AVal.int .i64 5 :: AVal.int .i64 0 :: AVal.int .i64 0 :: AVal.int .i64 0 :: AVal.int .u64 0 :: AVal.int .i64 1 :: AVal.int .i64 1791 :: AVal.int .i64 0 :: AVal.int .i64 0 :: AVal.int .u64 0 :: AVal.int .i64 1 :: AVal.int .i64 1 :: AVal.int .i64 0 :: AVal.int .i64 0 :: AVal.int .u64 0 :: [], .fixed⟩
  have g4 := get_alloc_self M3 ⟨AVal.int .i64 0 :: AVal.int .i64 0 :: AVal.int .i64 0 :: AVal.int .i64 0 :: AVal.int .u64 0 :: AVal.int .i64 0 :: AVal.int .i64 1 :: AVal.int .i64 0 :: AVal.int .i64 0 :: AVal.int .u64 0 :: AVal.int .i64 0 :: AVal.int .i64 (-2049) :: AVal.int .i64 0 :: AVal.int .i64 0 :: AVal.int .u64 0 :: AVal.int .i64 0 :: AVal.int .i64 9223372036854775807 :: AVal.int .i64 0 :: AVal.int .i64 0 :: AVal.int .u64 0 :: AVal.int .i64 0 :: AVal.int .i64 (-9223372036854775808) :: AVal.int .i64 0 :: AVal.int .i64 0 :: AVal.int .u64 0 :: AVal.int .i64 1 :: AVal.int .i64 9223372036854775807 :: AVal.int .i64 0 :: AVal.int .i64 0 :: AVal.int .u64 0 :: AVal.int .i64 1 :: AVal.int .i64 (-9223372036854775808) :: AVal.int .i64 0 :: AVal.int .i64 0 :: AVal.int .u64 0 :: AVal.int .i64 2 :: AVal.int .i64 0 :: AVal.int .i64 2047 :: AVal.int .i64 1 :: AVal.int .u64 0 :: AVal.int .i64 2 :: AVal.int .i64 0 :: AVal.int .i64 2041 :: AVal.int .i64 8 :: AVal.int .u64 0 :: AVal.int .i64 2 :: AVal.int .i64 0 :: AVal.int .i64 2040 :: AVal.int .i64 8 :: AVal.int .u64 0 :: AVal.int .i64 2 :: AVal.int .i64 0 :: AVal.int .i64 9223372036854775807 :: AVal.int .i64 8 :: AVal.int .u64 0 :: AVal.int .i64 2 :: AVal.int .i64 0 :: AVal.int .i64 (-9223372036854775808) :: AVal.int .i64 1 :: AVal.int .u64 0 :: AVal.int .i64 3 :: AVal.int .i64 0 :: AVal.int .i64 0 :: AVal.int .i64 9 :: AVal.int .u64 0 :: AVal.int .i64 3 :: AVal.int .i64 0 :: AVal.int .i64 2040 :: AVal.int .i64 8 :: AVal.int .u64 18446744073709551615 :: AVal.int .i64 0 :: AVal.int .i64 (-2048) :: AVal.int .i64 0 :: AVal.int .i64 0 :: AVal.int .u64 0 :: AVal.int .i64 0 :: AVal.int .i64 257 :: AVal.int .i64 0 :: AVal.int .i64 0 :: AVal.int .u64 0 :: AVal.int .i64 5 :: AVal.int .i64 0 :: AVal.int .i64 0 :: AVal.int .i64 0 :: AVal.int .u64 0 :: AVal.int .i64 1 :: AVal.int .i64 1791 :: AVal.int .i64 0 :: AVal.int .i64 0 :: AVal.int .u64 0 :: AVal.int .i64 1 :: AVal.int .i64 1 :: AVal.int .i64 0 :: AVal.int .i64 0 :: AVal.int .u64 0 :: [], .fixed⟩
  simp only [Option.bind_some, List.getElem?_cons_zero, List.getElem?_cons_succ, int?_int, AVal.bool?, AVal.ptr?, AVal.sl?, AVal.tup?, AVal.agg?, AVal.ifc?, AVal.fn?, AVal.str?, List.head?_cons, List.tail_cons, List.isEmpty_nil, cond_true, cond_false, Option.isNone_some, Option.isNone_none, Bool.not_true, Bool.not_false, decide_true, decide_false, beq_self_eq_true, bne_self_eq_false, Int.reduceBEq, Int.reduceBNe, Int.cast_ofNat_Int, h1, hawake] at hE
  generalize M3.alloc ⟨AVal.int .i64 0 :: AVal.int .i64 0 :: AVal.int .i64 0 :: AVal.int .i64 0 :: AVal.int .u64 0 :: AVal.int .i64 0 :: AVal.int .i64 1 :: AVal.int .i64 0 :: AVal.int .i64 0 :: AVal.int .u64 0 :: AVal.int .i64 0 :: AVal.int .i64 (-2049) :: AVal.int .i64 0 :: AVal.int .i64 0 :: AVal.int .u64 0 :: AVal.int .i64 0 :: AVal.int .i64 9223372036854775807 :: AVal.int .i64 0 :: AVal.int .i64 0 :: AVal.int .u64 0 :: AVal.int .i64 0 :: AVal.int .i64 (-9223372036854775808) :: AVal.int .i64 0 :: AVal.int .i64 0 :: AVal.int .u64 0 :: AVal.int .i64 1 :: AVal.int .i64 9223372036854775807 :: AVal.int .i64 0 :: AVal.int .i64 0 :: AVal.int .u64 0 :: AVal.int .i64 1 :: AVal.int .i64 (-9223372036854775808) :: AVal.int .i64 0 :: AVal.int .i64 0 :: AVal.int .u64 0 :: AVal.int .i64 2 :: AVal.int .i64 0 :: AVal.int .i64 2047 :: AVal.int .i64 1 :: AVal.int .u64 0 :: AVal.int .i64 2 :: AVal.int .i64 0 :: AVal.int .i64 2041 :: AVal.int .i64 8 :: AVal.int .u64 0 :: AVal.int .i64 2 :: AVal.int .i64 0 :: AVal.int .i64 2040 :: AVal.int .i64 8 :: AVal.int .u64 0 :: AVal.int .i64 2 :: AVal.int .i64 0 :: AVal.int .i64 9223372036854775807 :: AVal.int .i64 8 :: AVal.int .u64 0 :: AVal.int .i64 2 :: AVal.int .i64 0 :: AVal.int .i64 (-9223372036854775808) :: AVal.int .i64 1 :: AVal.int .u64 0 :: AVal.int .i64 3 :: AVal.int .i64 0 :: AVal.int .i64 0 :: AVal.int .i64 9 :: AVal.int .u64 0 :: AVal.int .i64 3 :: AVal.int .i64 0 :: AVal.int .i64 2040 :: AVal.int .i64 8 :: AVal.int .u64 18446744073709551615 :: AVal.int .i64 0 :: AVal.int .i64 (-2048) :: AVal.int .i64 0 :: AVal.int .i64 0 :: AVal.int .u64 0 :: AVal.int .i64 0 :: AVal.int .i64 257 :: AVal.int .i64 0 :: AVal.int .i64 0 :: AVal.int .u64 0 :: AVal.int .i64 5 :: AVal.int .i64 0 :: AVal.int .i64 0 :: AVal.int .i64 0 :: AVal.int .u64 0 :: AVal.int .i64 1 :: AVal.int .i64 1791 :: AVal.int .i64 0 :: AVal.int .i64 0 :: AVal.int .u64 0 :: AVal.int .i64 1 :: AVal.int .i64 1 :: AVal.int .i64 0 :: AVal.int .i64 0 :: AVal.int .u64 0 :: [], .fixed⟩ = M4 at hE u4 g4
  rw [replZ_int] at g3
  have g3' := u4.get g3
  have b1 : M4.ints .u8 (some (M2.n, 0)) 2049 (.known 2049) = some (List.replicate 2049 0) := by
    have := ints_whole (xs := List.replicate 2049 0) (k := .u8) (c := .known 2049) g3' (by simp) rfl
    rwa [List.length_replicate] at this
  have b2 : M4.ints .u8 (some (M2.n, 0)) 2048 (.known 2049) = some (List.replicate 2048 0) := by
    have := ints_part (i := 0) (l := 2048) (c := .known 2049) g3' (by simp) rfl (by simp)
    rw [this, List.drop_zero, List.take_replicate]; rfl
  have w0 : ∀ n, wfB (List.replicate n 0) := fun n c hc => by have := List.eq_of_mem_replicate hc; omega
  have r4 := calls_rows g4
  have rn : ∀ M : Mem, ArgRows M [.int .i64, .int .i64, .int .i64, .int .i64, .int .u64] none 0 (.known 0) := fun M i hi => by omega
  obtain ⟨M5, p5, u5⟩ := PacketPlays_C (r0 := 0) (r1 := 0) (rn M4) b1 (w0 _) (by omega)
  obtain ⟨M6, p6, u6⟩ := PacketPlays_C (r0 := 256) (r1 := 0) (r4.mono u5) (ints_upto b2 u5) (w0 _) (by omega)
  obtain ⟨M7, p7, u7⟩ := PacketPlays_C (ba := none) (bl := 0) (bc := .known 0) (xs := []) (r0 := 257) (r1 := 0) (rn M6) rfl (by simp [wfB]) (by omega)
  obtain ⟨M8, p8, u8⟩ := PacketPlays_C (ba := none) (bl := 0) (bc := .known 0) (xs := []) (r0 := 0) (r1 := -1) (rn M7) rfl (by simp [wfB]) (by omega)
  obtain ⟨M9, p9, u9⟩ := PacketPlays_C (ba := none) (bl := 0) (bc := .known 0) (xs := []) (r0 := 0) (r1 := 256) (r4.mono (((u5.trans u6).trans u7).trans u8)) rfl (by simp [wfB]) (by omega)
  have sl : ∀ {β : Type} (K : Option (Nat × Nat) → Nat → Cap → Option β), slcK false 1 (some (M2.n, 0)) 2049 (.known 2049) M5 none (some (.int .i64 2048)) none K = K (some (M2.n, 0)) 2048 (.known 2049) := fun K => slcK_known_to (h := 2048) (kh := .i64) (by omega)
  simp only [Option.bind_some, List.getElem?_cons_zero, List.getElem?_cons_succ, int?_int, AVal.bool?, AVal.ptr?, AVal.sl?, AVal.tup?, AVal.agg?, AVal.ifc?, AVal.fn?, AVal.str?, List.head?_cons, List.tail_cons, List.isEmpty_nil, cond_true, cond_false, Option.isNone_some, Option.isNone_none, Bool.not_true, Bool.not_false, decide_true, decide_false, beq_self_eq_true, bne_self_eq_false, Int.reduceBEq, Int.reduceBNe, Int.cast_ofNat_Int, p5, sl, p6, p7, p8, p9] at hE
  exact ⟨_, c6 ((p6_0_eq _ _ _).trans (s1.trans (s2.trans hE)))⟩
theorem PacketNames_law : ∀ avs M, M.Whole → okL M.n avs → ShowsArgs M [] avs → ∃ M', C 6 avs M = some (.bool true, M') := by
  intro avs M hM hok h
  simp only [ShowsArgs] at h
  subst h
  exact PacketNames_C
end Go.Proofs.Ytajchmkmlpchkaa.M
