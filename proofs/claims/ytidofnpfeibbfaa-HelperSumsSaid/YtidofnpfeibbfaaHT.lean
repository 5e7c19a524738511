/- HelperTells. -/
import Derived.Test.YtidofnpfeibbfaaHU
import Derived.Test.YtidofnpfeibbfaaXFc
import Derived.Test.YtidofnpfeibbfaaXLaw
set_option linter.unusedVariables false
set_option linter.unusedSimpArgs false
set_option linter.unnecessarySimpa false
set_option maxRecDepth 100000
namespace Go.Proofs.Ytidofnpfeibbfaa.M
open Go.Abs

theorem works24_C : ∃ M', C 12 [] Mem.empty = some (.bool true, M') := whole_says (n := 4000) (by kernel_rfl)
theorem callR {i : Int} (h : -2147483648 ≤ i ∧ i < 2147483648) : InsnR 35 0 0 0 i := ⟨by omega, by omega, by omega, by omega, h⟩
theorem call_ok (i : Int) : okB 35 0 0 0 i = hpR i := by
  unfold okB okS
  have : cls 35 = 13 := rfl
  rw [this]
  have e1 : Nat.beq 13 0 = false := rfl
  have e2 : decide ((0 : Int) > 9) = false := rfl
  have e3 : hasD 13 = false := rfl
  have e4 : hasS 13 = false := rfl
  have e5 : decide ((0 : Int) > 0) = false := rfl
  have e6 : offS 13 0 = true := rfl
  have e7 : immS szR hpR 13 i = hpR i := rfl
  rw [e1, e2, e3, e4, e5, e6, e7]
  cases hpR i <;> rfl
theorem call_regs {i : Int} (h : hpR i = true) : ((regs 35 0 0 0 i).length : Int) = argsI i := by
  unfold regs
  rw [call_ok, h, cond_true]
  have ha := argsI_le i
  have hs := args_same h
  have hr := argsR_le i
  have e : nums (rdB 35 0 0 i) 0 10 = nums (fun k => decide (1 ≤ k) && decide ((k : Int) ≤ argsI i)) 0 10 := by
    refine nums_congr 10 0 (fun k _ _ => ?_)
    unfold rdB
    have e1 : hasS (cls 35) = false := rfl
    have e2 : hasD (cls 35) = false := rfl
    have e3 : Nat.beq 35 36 = false := rfl
    have e4 : Nat.beq 35 35 = true := rfl
    rw [e1, e2, e3, e4]
    simp only [Bool.false_and, Bool.false_or, Bool.true_and]
  rw [e]
  generalize argsI i = a at ha hs
  have : a = 1 ∨ a = 2 ∨ a = 3 := by omega
  rcases this with rfl | rfl | rfl <;> rfl
/-- What both tell of a helper. -/
def tellA (i : Int) : List AVal := cond (hpR i) [.int .i64 (argsI i), .bool true] [.int .i64 0, .bool false]
theorem HArgs_C {i : Int} (h : -2147483648 ≤ i ∧ i < 2147483648) : ∃ M', C 8 [.int .i32 i] Mem.empty = some (.tup (tellA i), M') := by
  have hE := p8_0_eq C prog.meth i Mem.empty
  have hR := callR h
  obtain ⟨M1, e1, g1, u1, n1⟩ := alloc_at Mem.empty ⟨[.int .u8 0, .int .u8 0, .int .u8 0, .int .i16 0, .int .i32 0], .fixed⟩
  obtain ⟨M2, s2, g2, n2, b2⟩ := st_at (i := 0) (vs := [.int .u8 35, .int .u8 0, .int .u8 0, .int .i16 0, .int .i32 i]) g1 (by simp)
  have g2' : M2.get Mem.empty.n = some ⟨[.int .u8 35, .int .u8 0, .int .u8 0, .int .i16 0, .int .i32 i], .fixed⟩ := g2
  obtain ⟨Mc, cc, _⟩ := Check_B (M := Mem.empty) hR
  obtain ⟨M3, v, cr, u3, ho, _⟩ := Reads_C (M := M2) hR
  have e35 : ((35 : Nat) : Int) = 35 := rfl
  rw [e35, call_ok] at cc
  rw [e35] at cr
  simp only [e1, s2, ldI_at g2', Option.bind_some, List.getElem?_cons_zero, List.getElem?_cons_succ, int?_int, AVal.bool?, AVal.ptr?, AVal.sl?, AVal.tup?, AVal.agg?, AVal.ifc?, AVal.fn?, AVal.str?, List.head?_cons, List.tail_cons, List.isEmpty_nil, cond_true, cond_false, Option.isNone_some, Option.isNone_none, Bool.not_true, Bool.not_false, decide_true, decide_false, beq_self_eq_true, bne_self_eq_false, Int.reduceBEq, Int.reduceBNe, Int.cast_ofNat_Int] at hE
  rw [cc, Option.bind_some] at hE
  simp only [Option.bind_some, List.getElem?_cons_zero, List.getElem?_cons_succ, int?_int, AVal.bool?, AVal.ptr?, AVal.sl?, AVal.tup?, AVal.agg?, AVal.ifc?, AVal.fn?, AVal.str?, List.head?_cons, List.tail_cons, List.isEmpty_nil, cond_true, cond_false, Option.isNone_some, Option.isNone_none, Bool.not_true, Bool.not_false, decide_true, decide_false, beq_self_eq_true, bne_self_eq_false, Int.reduceBEq, Int.reduceBNe, Int.cast_ofNat_Int] at hE
  unfold tellA
  cases hp : hpR i with
  | false =>
    rw [hp] at hE
    exact ⟨M2, c8 hE⟩
  | true =>
    have e0 : (errI true != 0) = false := rfl
    rw [hp, e0, cond_false] at hE
    rw [cr, Option.bind_some] at hE
    simp only [Option.bind_some, List.getElem?_cons_zero, List.getElem?_cons_succ, int?_int, AVal.bool?, AVal.ptr?, AVal.sl?, AVal.tup?, AVal.agg?, AVal.ifc?, AVal.fn?, AVal.str?, List.head?_cons, List.tail_cons, List.isEmpty_nil, cond_true, cond_false, Option.isNone_some, Option.isNone_none, Bool.not_true, Bool.not_false, decide_true, decide_false, beq_self_eq_true, bne_self_eq_false, Int.reduceBEq, Int.reduceBNe, Int.cast_ofNat_Int] at hE
    have hl := ho.1
    have := call_regs hp
    have e2 : ((v.2.1 : Nat) : Int) = argsI i := by omega
    rw [e2] at hE
    exact ⟨M3, c8 hE⟩
theorem RHArgs_C {i : Int} (h : -2147483648 ≤ i ∧ i < 2147483648) : ∃ M', C 9 [.int .i32 i] Mem.empty = some (.tup (tellA i), M') := by
  have hE := p9_0_eq C prog.meth i Mem.empty
  have hR := callR h
  obtain ⟨Mc, cc, _⟩ := RCheck_C (M := Mem.empty) hR
  have e35 : ((35 : Nat) : Int) = 35 := rfl
  rw [e35, call_ok] at cc
  rw [cc, Option.bind_some] at hE
  simp only [Option.bind_some, List.getElem?_cons_zero, List.getElem?_cons_succ, int?_int, AVal.bool?, AVal.ptr?, AVal.sl?, AVal.tup?, AVal.agg?, AVal.ifc?, AVal.fn?, AVal.str?, List.head?_cons, List.tail_cons, List.isEmpty_nil, cond_true, cond_false, Option.isNone_some, Option.isNone_none, Bool.not_true, Bool.not_false, decide_true, decide_false, beq_self_eq_true, bne_self_eq_false, Int.reduceBEq, Int.reduceBNe, Int.cast_ofNat_Int] at hE
  unfold tellA
  cases hp : hpR i with
  | false =>
    rw [hp] at hE
    exact ⟨_, c9 hE⟩
  | true =>
    have e0 : (errI true != 0) = false := rfl
    rw [hp, e0, cond_false] at hE
    rw [RArgs_C, Option.bind_some] at hE
    simp only [Option.bind_some, List.getElem?_cons_zero, List.getElem?_cons_succ, int?_int, AVal.bool?, AVal.ptr?, AVal.sl?, AVal.tup?, AVal.agg?, AVal.ifc?, AVal.fn?, AVal.str?, List.head?_cons, List.tail_cons, List.isEmpty_nil, cond_true, cond_false, Option.isNone_some, Option.isNone_none, Bool.not_true, Bool.not_false, decide_true, decide_false, beq_self_eq_true, bne_self_eq_false, Int.reduceBEq, Int.reduceBNe, Int.cast_ofNat_Int] at hE
    rw [args_same hp] at hE
    exact ⟨_, c9 hE⟩
theorem tells_step {i : Int} (h : -2147483648 ≤ i ∧ i < 2147483648) (x j : Int) (M : Mem) : p3_2 C prog.meth x j i M = p3_1 C prog.meth x (IntKind.wrap .i32 (j + 1)) M := by
  have hE := p3_2_eq C prog.meth x j i M
  obtain ⟨Ma, ca⟩ := HArgs_C h
  obtain ⟨Mb, cb⟩ := RHArgs_C h
  obtain ⟨t, ht⟩ : ∃ t, (∃ M', C 10 [.int .i32 i] Mem.empty = some (.bool t, M')) ∧ (∃ M', C 11 [.int .i32 i] Mem.empty = some (.bool t, M')) := by
    have h1 := p10_0_eq C prog.meth i Mem.empty
    have h2 := p11_0_eq C prog.meth i Mem.empty
    cases h3 : (i == 3) with
    | true =>
      rw [h3, cond_true] at h1 h2
      exact ⟨true, ⟨_, c10 h1⟩, ⟨_, c11 h2⟩⟩
    | false =>
      rw [h3, cond_false] at h1 h2
      exact ⟨_, ⟨_, c10 h1⟩, ⟨_, c11 h2⟩⟩
  obtain ⟨⟨Mc, cc⟩, ⟨Md, cd⟩⟩ := ht
  have hsplit : ∃ n b, tellA i = [.int .i64 n, .bool b] := by
    unfold tellA
    cases hpR i
    · exact ⟨_, _, rfl⟩
    · exact ⟨_, _, rfl⟩
  obtain ⟨n, b, hn⟩ := hsplit
  rw [hn] at ca cb
  rw [ca, Option.bind_some] at hE
  simp only [Option.bind_some, List.getElem?_cons_zero, List.getElem?_cons_succ, int?_int, AVal.bool?, AVal.ptr?, AVal.sl?, AVal.tup?, AVal.agg?, AVal.ifc?, AVal.fn?, AVal.str?, List.head?_cons, List.tail_cons, List.isEmpty_nil, cond_true, cond_false, Option.isNone_some, Option.isNone_none, Bool.not_true, Bool.not_false, decide_true, decide_false, beq_self_eq_true, bne_self_eq_false, Int.reduceBEq, Int.reduceBNe, Int.cast_ofNat_Int] at hE
  rw [cb, Option.bind_some] at hE
  simp only [Option.bind_some, List.getElem?_cons_zero, List.getElem?_cons_succ, int?_int, AVal.bool?, AVal.ptr?, AVal.sl?, AVal.tup?, AVal.agg?, AVal.ifc?, AVal.fn?, AVal.str?, List.head?_cons, List.tail_cons, List.isEmpty_nil, cond_true, cond_false, Option.isNone_some, Option.isNone_none, Bool.not_true, Bool.not_false, decide_true, decide_false, beq_self_eq_true, bne_self_eq_false, Int.reduceBEq, Int.reduceBNe, Int.cast_ofNat_Int] at hE
  rw [cc, Option.bind_some] at hE
  simp only [Option.bind_some, List.getElem?_cons_zero, List.getElem?_cons_succ, int?_int, AVal.bool?, AVal.ptr?, AVal.sl?, AVal.tup?, AVal.agg?, AVal.ifc?, AVal.fn?, AVal.str?, List.head?_cons, List.tail_cons, List.isEmpty_nil, cond_true, cond_false, Option.isNone_some, Option.isNone_none, Bool.not_true, Bool.not_false, decide_true, decide_false, beq_self_eq_true, bne_self_eq_false, Int.reduceBEq, Int.reduceBNe, Int.cast_ofNat_Int] at hE
  rw [cd, Option.bind_some] at hE
  simp only [Option.bind_some, List.getElem?_cons_zero, List.getElem?_cons_succ, int?_int, AVal.bool?, AVal.ptr?, AVal.sl?, AVal.tup?, AVal.agg?, AVal.ifc?, AVal.fn?, AVal.str?, List.head?_cons, List.tail_cons, List.isEmpty_nil, cond_true, cond_false, Option.isNone_some, Option.isNone_none, Bool.not_true, Bool.not_false, decide_true, decide_false, beq_self_eq_true, bne_self_eq_false, Int.reduceBEq, Int.reduceBNe, Int.cast_ofNat_Int] at hE
  exact hE
theorem tells_loop {x : Int} (hx : -2147483648 ≤ x ∧ x < 2147483648) : ∀ (d : Nat) (j : Int) (M : Mem), j + d = 30 → -1 ≤ j → ∃ M', p3_1 C prog.meth x j M = some (.bool true, M') := by
  intro d
  induction d with
  | zero =>
    intro j M hj h1
    have hE := p3_1_eq C prog.meth x j M
    have c1 : ¬ (j < 30) := by omega
    obtain ⟨Mw, cw⟩ := works24_C
    simp only [c1, Option.bind_some, List.getElem?_cons_zero, List.getElem?_cons_succ, int?_int, AVal.bool?, AVal.ptr?, AVal.sl?, AVal.tup?, AVal.agg?, AVal.ifc?, AVal.fn?, AVal.str?, List.head?_cons, List.tail_cons, List.isEmpty_nil, cond_true, cond_false, Option.isNone_some, Option.isNone_none, Bool.not_true, Bool.not_false, decide_true, decide_false, beq_self_eq_true, bne_self_eq_false, Int.reduceBEq, Int.reduceBNe, Int.cast_ofNat_Int] at hE
    rw [cw, Option.bind_some] at hE
    simp only [Option.bind_some, List.getElem?_cons_zero, List.getElem?_cons_succ, int?_int, AVal.bool?, AVal.ptr?, AVal.sl?, AVal.tup?, AVal.agg?, AVal.ifc?, AVal.fn?, AVal.str?, List.head?_cons, List.tail_cons, List.isEmpty_nil, cond_true, cond_false, Option.isNone_some, Option.isNone_none, Bool.not_true, Bool.not_false, decide_true, decide_false, beq_self_eq_true, bne_self_eq_false, Int.reduceBEq, Int.reduceBNe, Int.cast_ofNat_Int] at hE
    exact ⟨_, hE⟩
  | succ d ih =>
    intro j M hj h1
    have hE := p3_1_eq C prog.meth x j M
    have c1 : j < 30 := by omega
    have hw : IntKind.wrap .i32 (j + 1) = j + 1 := by rw [wi32]; omega
    obtain ⟨M', r⟩ := ih (j + 1) M (by omega) (by omega)
    refine ⟨M', hE.trans ?_⟩
    simp only [c1, decide_true, cond_true]
    by_cases h0 : j < 0
    · simp only [h0, decide_true, cond_true]
      rw [tells_step hx, hw]; exact r
    · simp only [h0, decide_false, cond_false]
      rw [tells_step (by omega), hw]; exact r
theorem HelperTells_law : ∀ avs M, M.Whole → okL M.n avs → ShowsArgs M [(false, [.int .i32])] avs → ∃ M', C 3 avs M = some (.bool true, M') := by
  intro avs M hM hok h
  simp only [ShowsArgs, ShowsArg] at h
  obtain ⟨v, _, rfl, ⟨t, ht, hv⟩, rfl⟩ := h
  obtain rfl : t = .int .i32 := by simpa using ht.symm
  simp only [Shows] at hv
  obtain ⟨n, rfl, hn⟩ := hv
  have hb := wf_bounds hn
  have h1 : IntKind.min .i32 = -2147483648 := by decide
  have h2 : IntKind.max .i32 = 2147483647 := by decide
  obtain ⟨M', r⟩ := tells_loop (x := n) (by omega) 31 (-1) M (by omega) (by omega)
  exact ⟨M', c3 ((p3_0_eq _ _ _ _).trans r)⟩
end Go.Proofs.Ytidofnpfeibbfaa.M
