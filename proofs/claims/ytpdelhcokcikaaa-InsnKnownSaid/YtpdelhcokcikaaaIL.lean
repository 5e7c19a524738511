/- The laws of insn: words, reads, names, back. -/
import Derived.Test.YtpdelhcokcikaaaIN
import Derived.Test.YtpdelhcokcikaaaXLaw
set_option linter.unusedVariables false
set_option linter.unusedSimpArgs false
set_option linter.unnecessarySimpa false
set_option maxRecDepth 100000
namespace Go.Proofs.Ytpdelhcokcikaaa.M
open Go.Abs

def insnA (op : Nat) (d s o i : Int) : AVal := .agg [.int .u8 (op : Int), .int .u8 d, .int .u8 s, .int .i16 o, .int .i32 i]
theorem wf_u8 {n : Int} (h : (Lit.int .u8 n).wf = true) : 0 ≤ n ∧ n < 256 := by
  have := wf_bounds h
  have h1 : IntKind.min .u8 = 0 := by decide
  have h2 : IntKind.max .u8 = 255 := by decide
  omega
theorem wf_u64 {n : Int} (h : (Lit.int .u64 n).wf = true) : 0 ≤ n ∧ n < 18446744073709551616 := by
  have := wf_bounds h
  have h1 : IntKind.min .u64 = 0 := by decide
  have h2 : IntKind.max .u64 = 18446744073709551615 := by decide
  omega
theorem wf_i16 {n : Int} (h : (Lit.int .i16 n).wf = true) : -32768 ≤ n ∧ n < 32768 := by
  have := wf_bounds h
  have h1 : IntKind.min .i16 = -32768 := by decide
  have h2 : IntKind.max .i16 = 32767 := by decide
  omega
theorem wf_i32 {n : Int} (h : (Lit.int .i32 n).wf = true) : -2147483648 ≤ n ∧ n < 2147483648 := by
  have := wf_bounds h
  have h1 : IntKind.min .i32 = -2147483648 := by decide
  have h2 : IntKind.max .i32 = 2147483647 := by decide
  omega
theorem insn_arg {M : Mem} {v : AVal} (h : ShowsArg M (true, [.int .u8, .int .u8, .int .u8, .int .i16, .int .i32]) v) : ∃ (op : Nat) (d s o i : Int), v = insnA op d s o i ∧ InsnR op d s o i := by
  simp only [ShowsArg, ShowsR, Shows] at h
  obtain ⟨vs, rfl, v1, w1, rfl, ⟨x1, rfl, h1⟩, v2, w2, rfl, ⟨x2, rfl, h2⟩, v3, w3, rfl, ⟨x3, rfl, h3⟩, v4, w4, rfl, ⟨x4, rfl, h4⟩, v5, w5, rfl, ⟨x5, rfl, h5⟩, rfl⟩ := h
  have b1 := wf_u8 h1
  obtain ⟨n, rfl⟩ : ∃ n : Nat, x1 = (n : Int) := ⟨x1.toNat, by omega⟩
  exact ⟨n, x2, x3, x4, x5, rfl, by omega, wf_u8 h2, wf_u8 h3, wf_i16 h4, wf_i32 h5⟩
section
variable {M : Mem} {op : Nat} {d s o i : Int}
theorem InsnWords_C (h : InsnR op d s o i) : ∃ M', C 3 [insnA op d s o i] M = some (.bool true, M') := by
  have hE := p3_0_eq C prog.meth op d s o i M
  obtain ⟨M1, e1, g1, u1, n1⟩ := alloc_at M ⟨[.int .u8 (op : Int), .int .u8 d, .int .u8 s, .int .i16 o, .int .i32 i], .fixed⟩
  rw [e1] at hE
  obtain ⟨Ma, ca, _⟩ := Encode_C (M := Mem.empty) h
  obtain ⟨Mb, cb, _⟩ := REncode_C (M := Mem.empty) h
  obtain ⟨Mc, cc, _⟩ := Check_B (M := Mem.empty) h
  obtain ⟨Md, cd, _⟩ := RCheck_C (M := Mem.empty) h
  obtain ⟨Mw, cw⟩ := works_C
  simp only [ldI_at g1, Option.bind_some, List.getElem?_cons_zero, List.getElem?_cons_succ, int?_int, AVal.bool?, AVal.ptr?, AVal.sl?, AVal.tup?, AVal.agg?, AVal.ifc?, AVal.fn?, AVal.str?, List.head?_cons, List.tail_cons, List.isEmpty_nil, cond_true, cond_false, Option.isNone_some, Option.isNone_none, Bool.not_true, Bool.not_false, decide_true, decide_false, beq_self_eq_true, bne_self_eq_false, Int.reduceBEq, Int.reduceBNe, Int.cast_ofNat_Int] at hE
  rw [ca, Option.bind_some] at hE
  simp only [Option.bind_some, List.getElem?_cons_zero, List.getElem?_cons_succ, int?_int, AVal.bool?, AVal.ptr?, AVal.sl?, AVal.tup?, AVal.agg?, AVal.ifc?, AVal.fn?, AVal.str?, List.head?_cons, List.tail_cons, List.isEmpty_nil, cond_true, cond_false, Option.isNone_some, Option.isNone_none, Bool.not_true, Bool.not_false, decide_true, decide_false, beq_self_eq_true, bne_self_eq_false, Int.reduceBEq, Int.reduceBNe, Int.cast_ofNat_Int] at hE
  rw [cb, Option.bind_some] at hE
  simp only [Option.bind_some, List.getElem?_cons_zero, List.getElem?_cons_succ, int?_int, AVal.bool?, AVal.ptr?, AVal.sl?, AVal.tup?, AVal.agg?, AVal.ifc?, AVal.fn?, AVal.str?, List.head?_cons, List.tail_cons, List.isEmpty_nil, cond_true, cond_false, Option.isNone_some, Option.isNone_none, Bool.not_true, Bool.not_false, decide_true, decide_false, beq_self_eq_true, bne_self_eq_false, Int.reduceBEq, Int.reduceBNe, Int.cast_ofNat_Int] at hE
  rw [cc, Option.bind_some] at hE
  simp only [Option.bind_some, List.getElem?_cons_zero, List.getElem?_cons_succ, int?_int, AVal.bool?, AVal.ptr?, AVal.sl?, AVal.tup?, AVal.agg?, AVal.ifc?, AVal.fn?, AVal.str?, List.head?_cons, List.tail_cons, List.isEmpty_nil, cond_true, cond_false, Option.isNone_some, Option.isNone_none, Bool.not_true, Bool.not_false, decide_true, decide_false, beq_self_eq_true, bne_self_eq_false, Int.reduceBEq, Int.reduceBNe, Int.cast_ofNat_Int] at hE
  rw [cd, Option.bind_some] at hE
  simp only [Option.bind_some, List.getElem?_cons_zero, List.getElem?_cons_succ, int?_int, AVal.bool?, AVal.ptr?, AVal.sl?, AVal.tup?, AVal.agg?, AVal.ifc?, AVal.fn?, AVal.str?, List.head?_cons, List.tail_cons, List.isEmpty_nil, cond_true, cond_false, Option.isNone_some, Option.isNone_none, Bool.not_true, Bool.not_false, decide_true, decide_false, beq_self_eq_true, bne_self_eq_false, Int.reduceBEq, Int.reduceBNe, Int.cast_ofNat_Int] at hE
  rw [cw, Option.bind_some] at hE
  simp only [Option.bind_some, List.getElem?_cons_zero, List.getElem?_cons_succ, int?_int, AVal.bool?, AVal.ptr?, AVal.sl?, AVal.tup?, AVal.agg?, AVal.ifc?, AVal.fn?, AVal.str?, List.head?_cons, List.tail_cons, List.isEmpty_nil, cond_true, cond_false, Option.isNone_some, Option.isNone_none, Bool.not_true, Bool.not_false, decide_true, decide_false, beq_self_eq_true, bne_self_eq_false, Int.reduceBEq, Int.reduceBNe, Int.cast_ofNat_Int] at hE
  exact ⟨_, c3 hE⟩
theorem readC_cases (w : Nat) : ∃ (op : Nat) (d s o i : Int), readC w = [.int .u8 (op : Int), .int .u8 d, .int .u8 s, .int .i16 o, .int .i32 i] ∧ ((okB (opW w) (dW w) (sW w) (oW w) (iW w) = true ∧ op = opW w ∧ d = dW w ∧ s = sW w ∧ o = oW w ∧ i = iW w) ∨ (okB (opW w) (dW w) (sW w) (oW w) (iW w) = false ∧ op = 0 ∧ d = 0 ∧ s = 0 ∧ o = 0 ∧ i = 0)) := by
  unfold readC
  cases h : okB (opW w) (dW w) (sW w) (oW w) (iW w)
  · exact ⟨0, 0, 0, 0, 0, rfl, .inr ⟨rfl, rfl, rfl, rfl, rfl, rfl⟩⟩
  · exact ⟨_, _, _, _, _, rfl, .inl ⟨rfl, rfl, rfl, rfl, rfl, rfl⟩⟩
theorem InsnReads_C {w : Nat} (h : w < 2 ^ 64) : ∃ M', C 4 [.int .u64 (w : Int)] M = some (.bool true, M') := by
  have hE := p4_0_eq C prog.meth w M
  obtain ⟨Ma, ca, _⟩ := Decode_C (M := Mem.empty) h
  obtain ⟨Mb, cb, _⟩ := RDecode_C (M := Mem.empty) h
  obtain ⟨Mw, cw⟩ := works_C
  obtain ⟨op, d, s, o, i, er, -⟩ := readC_cases w
  rw [er] at ca cb
  obtain ⟨M1, e1, g1, u1, n1⟩ := alloc_at M ⟨[.int .u8 0, .int .u8 0, .int .u8 0, .int .i16 0, .int .i32 0], .fixed⟩
  obtain ⟨M2, s2, g2, n2, b2⟩ := st_at (i := 0) (vs := [.int .u8 (op : Int), .int .u8 d, .int .u8 s, .int .i16 o, .int .i32 i]) g1 (by simp)
  have g2' : M2.get M.n = some ⟨[.int .u8 (op : Int), .int .u8 d, .int .u8 s, .int .i16 o, .int .i32 i], .fixed⟩ := g2
  obtain ⟨M3, e3, g3, u3, n3⟩ := alloc_at M2 ⟨[.int .u8 0, .int .u8 0, .int .u8 0, .int .i16 0, .int .i32 0], .fixed⟩
  obtain ⟨M4, s4, g4, n4, b4⟩ := st_at (i := 0) (vs := [.int .u8 (op : Int), .int .u8 d, .int .u8 s, .int .i16 o, .int .i32 i]) g3 (by simp)
  have g4' : M4.get M2.n = some ⟨[.int .u8 (op : Int), .int .u8 d, .int .u8 s, .int .i16 o, .int .i32 i], .fixed⟩ := g4
  have g40 : M4.get M.n = some ⟨[.int .u8 (op : Int), .int .u8 d, .int .u8 s, .int .i16 o, .int .i32 i], .fixed⟩ := b4.get (u3.get g2') (by omega)
  rw [ca, Option.bind_some] at hE
  simp only [Option.bind_some, List.getElem?_cons_zero, List.getElem?_cons_succ, int?_int, AVal.bool?, AVal.ptr?, AVal.sl?, AVal.tup?, AVal.agg?, AVal.ifc?, AVal.fn?, AVal.str?, List.head?_cons, List.tail_cons, List.isEmpty_nil, cond_true, cond_false, Option.isNone_some, Option.isNone_none, Bool.not_true, Bool.not_false, decide_true, decide_false, beq_self_eq_true, bne_self_eq_false, Int.reduceBEq, Int.reduceBNe, Int.cast_ofNat_Int, e1] at hE
  rw [s2, Option.bind_some, cb, Option.bind_some] at hE
  simp only [Option.bind_some, List.getElem?_cons_zero, List.getElem?_cons_succ, int?_int, AVal.bool?, AVal.ptr?, AVal.sl?, AVal.tup?, AVal.agg?, AVal.ifc?, AVal.fn?, AVal.str?, List.head?_cons, List.tail_cons, List.isEmpty_nil, cond_true, cond_false, Option.isNone_some, Option.isNone_none, Bool.not_true, Bool.not_false, decide_true, decide_false, beq_self_eq_true, bne_self_eq_false, Int.reduceBEq, Int.reduceBNe, Int.cast_ofNat_Int, e3] at hE
  rw [s4, Option.bind_some] at hE
  simp only [ldI_at g40, ldI_at g4', Option.bind_some, List.getElem?_cons_zero, List.getElem?_cons_succ, int?_int, AVal.bool?, AVal.ptr?, AVal.sl?, AVal.tup?, AVal.agg?, AVal.ifc?, AVal.fn?, AVal.str?, List.head?_cons, List.tail_cons, List.isEmpty_nil, cond_true, cond_false, Option.isNone_some, Option.isNone_none, Bool.not_true, Bool.not_false, decide_true, decide_false, beq_self_eq_true, bne_self_eq_false, Int.reduceBEq, Int.reduceBNe, Int.cast_ofNat_Int, Bool.and_true] at hE
  rw [cw, Option.bind_some] at hE
  simp only [Option.bind_some, List.getElem?_cons_zero, List.getElem?_cons_succ, int?_int, AVal.bool?, AVal.ptr?, AVal.sl?, AVal.tup?, AVal.agg?, AVal.ifc?, AVal.fn?, AVal.str?, List.head?_cons, List.tail_cons, List.isEmpty_nil, cond_true, cond_false, Option.isNone_some, Option.isNone_none, Bool.not_true, Bool.not_false, decide_true, decide_false, beq_self_eq_true, bne_self_eq_false, Int.reduceBEq, Int.reduceBNe, Int.cast_ofNat_Int] at hE
  exact ⟨_, c4 hE⟩
theorem InsnNames_C {n : Int} (h0 : 0 ≤ n) (h1 : n < 256) (s : ByteArray) : ∃ M', C 6 [.int .u8 n, .str s] M = some (.bool true, M') := by
  have hE := p6_0_eq C prog.meth n s M
  obtain ⟨Ma, ca, _⟩ := Op_C s Mem.empty
  obtain ⟨Mb, cb, _⟩ := ROp_C s Mem.empty
  have cc := Name_C n Mem.empty
  obtain ⟨Md, cd, _⟩ := RName_C h0 h1 Mem.empty
  obtain ⟨Mw, cw⟩ := works_C
  unfold opV at ca cb
  rw [ca, Option.bind_some] at hE
  simp only [Option.bind_some, List.getElem?_cons_zero, List.getElem?_cons_succ, int?_int, AVal.bool?, AVal.ptr?, AVal.sl?, AVal.tup?, AVal.agg?, AVal.ifc?, AVal.fn?, AVal.str?, List.head?_cons, List.tail_cons, List.isEmpty_nil, cond_true, cond_false, Option.isNone_some, Option.isNone_none, Bool.not_true, Bool.not_false, decide_true, decide_false, beq_self_eq_true, bne_self_eq_false, Int.reduceBEq, Int.reduceBNe, Int.cast_ofNat_Int] at hE
  rw [cb, Option.bind_some] at hE
  simp only [Option.bind_some, List.getElem?_cons_zero, List.getElem?_cons_succ, int?_int, AVal.bool?, AVal.ptr?, AVal.sl?, AVal.tup?, AVal.agg?, AVal.ifc?, AVal.fn?, AVal.str?, List.head?_cons, List.tail_cons, List.isEmpty_nil, cond_true, cond_false, Option.isNone_some, Option.isNone_none, Bool.not_true, Bool.not_false, decide_true, decide_false, beq_self_eq_true, bne_self_eq_false, Int.reduceBEq, Int.reduceBNe, Int.cast_ofNat_Int] at hE
  rw [cc, Option.bind_some] at hE
  simp only [Option.bind_some, List.getElem?_cons_zero, List.getElem?_cons_succ, int?_int, AVal.bool?, AVal.ptr?, AVal.sl?, AVal.tup?, AVal.agg?, AVal.ifc?, AVal.fn?, AVal.str?, List.head?_cons, List.tail_cons, List.isEmpty_nil, cond_true, cond_false, Option.isNone_some, Option.isNone_none, Bool.not_true, Bool.not_false, decide_true, decide_false, beq_self_eq_true, bne_self_eq_false, Int.reduceBEq, Int.reduceBNe, Int.cast_ofNat_Int] at hE
  rw [cd, Option.bind_some] at hE
  simp only [Option.bind_some, List.getElem?_cons_zero, List.getElem?_cons_succ, int?_int, AVal.bool?, AVal.ptr?, AVal.sl?, AVal.tup?, AVal.agg?, AVal.ifc?, AVal.fn?, AVal.str?, List.head?_cons, List.tail_cons, List.isEmpty_nil, cond_true, cond_false, Option.isNone_some, Option.isNone_none, Bool.not_true, Bool.not_false, decide_true, decide_false, beq_self_eq_true, bne_self_eq_false, Int.reduceBEq, Int.reduceBNe, Int.cast_ofNat_Int] at hE
  rw [cw, Option.bind_some] at hE
  simp only [Option.bind_some, List.getElem?_cons_zero, List.getElem?_cons_succ, int?_int, AVal.bool?, AVal.ptr?, AVal.sl?, AVal.tup?, AVal.agg?, AVal.ifc?, AVal.fn?, AVal.str?, List.head?_cons, List.tail_cons, List.isEmpty_nil, cond_true, cond_false, Option.isNone_some, Option.isNone_none, Bool.not_true, Bool.not_false, decide_true, decide_false, beq_self_eq_true, bne_self_eq_false, Int.reduceBEq, Int.reduceBNe, Int.cast_ofNat_Int] at hE
  exact ⟨_, c6 hE⟩
end
theorem InsnWords_law : ∀ avs M, M.Whole → okL M.n avs → ShowsArgs M [(true, [.int .u8, .int .u8, .int .u8, .int .i16, .int .i32])] avs → ∃ M', C 3 avs M = some (.bool true, M') := by
  intro avs M hM hok h
  simp only [ShowsArgs] at h
  obtain ⟨v, _, rfl, hv, rfl⟩ := h
  obtain ⟨op, d, s, o, i, rfl, hR⟩ := insn_arg hv
  exact InsnWords_C hR
theorem InsnReads_law : ∀ avs M, M.Whole → okL M.n avs → ShowsArgs M [(false, [.int .u64])] avs → ∃ M', C 4 avs M = some (.bool true, M') := by
  intro avs M hM hok h
  simp only [ShowsArgs, ShowsArg] at h
  obtain ⟨v, _, rfl, ⟨t, ht, hv⟩, rfl⟩ := h
  obtain rfl : t = .int .u64 := by simpa using ht.symm
  simp only [Shows] at hv
  obtain ⟨n, rfl, hn⟩ := hv
  have := wf_u64 hn
  obtain ⟨w, rfl⟩ : ∃ w : Nat, n = (w : Int) := ⟨n.toNat, by omega⟩
  exact InsnReads_C (by omega)
theorem InsnNames_law : ∀ avs M, M.Whole → okL M.n avs → ShowsArgs M [(false, [.int .u8]), (false, [.str])] avs → ∃ M', C 6 avs M = some (.bool true, M') := by
  intro avs M hM hok h
  simp only [ShowsArgs, ShowsArg] at h
  obtain ⟨v, _, rfl, ⟨t, ht, hv⟩, w, _, rfl, ⟨t', ht', hw⟩, rfl⟩ := h
  obtain rfl : t = .int .u8 := by simpa using ht.symm
  obtain rfl : t' = .str := by simpa using ht'.symm
  simp only [Shows] at hv hw
  obtain ⟨n, rfl, hn⟩ := hv
  obtain ⟨x, rfl, hx⟩ := hw
  have := wf_u8 hn
  exact InsnNames_C this.1 this.2 _
end Go.Proofs.Ytpdelhcokcikaaa.M
