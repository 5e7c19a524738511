/- The laws of insn: there and back. -/
import Derived.Test.YtpdelhcokcikaaaIL
set_option linter.unusedVariables false
set_option linter.unusedSimpArgs false
set_option linter.unnecessarySimpa false
set_option maxRecDepth 100000
namespace Go.Proofs.Ytpdelhcokcikaaa.M
open Go.Abs

section
variable {op op' : Nat} {d s o i d' s' o' i' : Int}
/-- What an instruction's word reads as. -/
theorem Decode_word {op : Nat} {d s o i : Int} (h : InsnR op d s o i) (hok : okB op d s o i = true) : ∃ M', C 15 [.int .u64 (wordN op d s o i : Int)] Mem.empty = some (.tup [insnA op d s o i, .int .i64 0], M') := by
  have hsm := okB_small hok
  have hb := word_back h hsm.1 hsm.2.1
  obtain ⟨M', c1, _⟩ := Decode_C (M := Mem.empty) (wordN_lt h hsm.1 hsm.2.1)
  unfold readC at c1
  rw [hb.1, hb.2.1, hb.2.2.1, hb.2.2.2.1, hb.2.2.2.2, hok] at c1
  exact ⟨M', c1⟩
theorem errI_ne (b : Bool) : (errI b == 0) = b ∧ (errI b != 0) = !b ∧ (errI b == 130) = !b := by cases b <;> exact ⟨rfl, rfl, rfl⟩
/-- The end: any word. -/
theorem back_end {w : Nat} (hw : w < 2 ^ 64) (M : Mem) : ∃ M', p7_3 C prog.meth w M = some (.bool true, M') := by
  have hE := p7_3_eq C prog.meth w M
  obtain ⟨Ma, ca, _⟩ := Decode_C (M := Mem.empty) hw
  obtain ⟨op, d, s, o, i, er, hcase⟩ := readC_cases w
  rw [er] at ca
  obtain ⟨M1, e1, g1, u1, n1⟩ := alloc_at M ⟨[.int .u8 0, .int .u8 0, .int .u8 0, .int .i16 0, .int .i32 0], .fixed⟩
  obtain ⟨M2, s2, g2, n2, b2⟩ := st_at (i := 0) (vs := [.int .u8 (op : Int), .int .u8 d, .int .u8 s, .int .i16 o, .int .i32 i]) g1 (by simp)
  have g2' : M2.get M.n = some ⟨[.int .u8 (op : Int), .int .u8 d, .int .u8 s, .int .i16 o, .int .i32 i], .fixed⟩ := g2
  rw [ca, Option.bind_some] at hE
  simp only [Option.bind_some, List.getElem?_cons_zero, List.getElem?_cons_succ, int?_int, AVal.bool?, AVal.ptr?, AVal.sl?, AVal.tup?, AVal.agg?, AVal.ifc?, AVal.fn?, AVal.str?, List.head?_cons, List.tail_cons, List.isEmpty_nil, cond_true, cond_false, Option.isNone_some, Option.isNone_none, Bool.not_true, Bool.not_false, decide_true, decide_false, beq_self_eq_true, bne_self_eq_false, Int.reduceBEq, Int.reduceBNe, Int.cast_ofNat_Int, e1] at hE
  rw [s2, Option.bind_some] at hE
  simp only [ldI_at g2', Option.bind_some, List.getElem?_cons_zero, List.getElem?_cons_succ, int?_int, AVal.bool?, AVal.ptr?, AVal.sl?, AVal.tup?, AVal.agg?, AVal.ifc?, AVal.fn?, AVal.str?, List.head?_cons, List.tail_cons, List.isEmpty_nil, cond_true, cond_false, Option.isNone_some, Option.isNone_none, Bool.not_true, Bool.not_false, decide_true, decide_false, beq_self_eq_true, bne_self_eq_false, Int.reduceBEq, Int.reduceBNe, Int.cast_ofNat_Int] at hE
  rw [(errI_ne _).2.1, (errI_ne _).2.2] at hE
  rcases hcase with ⟨hok, h1, h2, h3, h4, h5⟩ | ⟨hok, h1, h2, h3, h4, h5⟩
  · obtain ⟨Mb, cb, _⟩ := Encode_C (M := Mem.empty) (insnW hw)
    rw [hok, back_word hw] at cb
    rw [h1, h2, h3, h4, h5] at hE
    rw [hok, cb, Option.bind_some] at hE
    simp only [Option.bind_some, List.getElem?_cons_zero, List.getElem?_cons_succ, int?_int, AVal.bool?, AVal.ptr?, AVal.sl?, AVal.tup?, AVal.agg?, AVal.ifc?, AVal.fn?, AVal.str?, List.head?_cons, List.tail_cons, List.isEmpty_nil, cond_true, cond_false, Option.isNone_some, Option.isNone_none, Bool.not_true, Bool.not_false, decide_true, decide_false, beq_self_eq_true, bne_self_eq_false, Int.reduceBEq, Int.reduceBNe, Int.cast_ofNat_Int, (errI_ne true).1] at hE
    exact ⟨_, hE⟩
  · rw [hok, h1, h2, h3, h4, h5] at hE
    exact ⟨_, hE⟩
/-- Two words are one word when the instructions are one. -/
theorem same_word (h : InsnR op d s o i) (h' : InsnR op' d' s' o' i') (hok : okB op d s o i = true) (hok' : okB op' d' s' o' i' = true) :
    (((wordN op d s o i : Int) == (wordN op' d' s' o' i' : Int)) == (((op : Int) == (op' : Int)) && ((d == d') && ((s == s') && ((o == o') && ((i == i') && true)))))) = true := by
  have hsm := okB_small hok
  have hsm' := okB_small hok'
  have hb := word_back h hsm.1 hsm.2.1
  have hb' := word_back h' hsm'.1 hsm'.2.1
  by_cases he : op = op' ∧ d = d' ∧ s = s' ∧ o = o' ∧ i = i'
  · obtain ⟨rfl, rfl, rfl, rfl, rfl⟩ := he
    simp
  · have hne : wordN op d s o i ≠ wordN op' d' s' o' i' := fun hw => by
      rw [hw] at hb
      exact he ⟨hb.1.symm.trans hb'.1, hb.2.1.symm.trans hb'.2.1, hb.2.2.1.symm.trans hb'.2.2.1, hb.2.2.2.1.symm.trans hb'.2.2.2.1, hb.2.2.2.2.symm.trans hb'.2.2.2.2⟩
    have h1 : ((wordN op d s o i : Int) == (wordN op' d' s' o' i' : Int)) = false := by simp; omega
    rw [h1]
    by_cases e1 : op = op'
    · by_cases e2 : d = d'
      · by_cases e3 : s = s'
        · by_cases e4 : o = o'
          · have e5 : i ≠ i' := fun e5 => he ⟨e1, e2, e3, e4, e5⟩
            simp [e5]
          · simp [e4]
        · simp [e3]
      · simp [e2]
    · have : (op : Int) ≠ (op' : Int) := by omega
      simp [this]
theorem InsnBack_C {w : Nat} (h : InsnR op d s o i) (h' : InsnR op' d' s' o' i') (hw : w < 2 ^ 64) (M : Mem) : ∃ M', C 7 [insnA op d s o i, insnA op' d' s' o' i', .int .u64 (w : Int)] M = some (.bool true, M') := by
  have hE := p7_0_eq C prog.meth op d s o i op' d' s' o' i' w M
  obtain ⟨M1, e1, g1, u1, n1⟩ := alloc_at M ⟨[.int .u8 (op : Int), .int .u8 d, .int .u8 s, .int .i16 o, .int .i32 i], .fixed⟩
  rw [e1] at hE
  obtain ⟨M2, e2, g2, u2, n2⟩ := alloc_at M1 ⟨[.int .u8 (op' : Int), .int .u8 d', .int .u8 s', .int .i16 o', .int .i32 i'], .fixed⟩
  simp only [e2] at hE
  have g12 := u2.get g1
  obtain ⟨Mw, cw⟩ := works_C
  obtain ⟨Ma, ca, _⟩ := Encode_C (M := Mem.empty) h
  obtain ⟨Mb, cb, _⟩ := Encode_C (M := Mem.empty) h'
  rw [cw, Option.bind_some] at hE
  simp only [ldI_at g12, ldI_at g2, Option.bind_some, List.getElem?_cons_zero, List.getElem?_cons_succ, int?_int, AVal.bool?, AVal.ptr?, AVal.sl?, AVal.tup?, AVal.agg?, AVal.ifc?, AVal.fn?, AVal.str?, List.head?_cons, List.tail_cons, List.isEmpty_nil, cond_true, cond_false, Option.isNone_some, Option.isNone_none, Bool.not_true, Bool.not_false, decide_true, decide_false, beq_self_eq_true, bne_self_eq_false, Int.reduceBEq, Int.reduceBNe, Int.cast_ofNat_Int] at hE
  rw [ca, Option.bind_some] at hE
  simp only [Option.bind_some, List.getElem?_cons_zero, List.getElem?_cons_succ, int?_int, AVal.bool?, AVal.ptr?, AVal.sl?, AVal.tup?, AVal.agg?, AVal.ifc?, AVal.fn?, AVal.str?, List.head?_cons, List.tail_cons, List.isEmpty_nil, cond_true, cond_false, Option.isNone_some, Option.isNone_none, Bool.not_true, Bool.not_false, decide_true, decide_false, beq_self_eq_true, bne_self_eq_false, Int.reduceBEq, Int.reduceBNe, Int.cast_ofNat_Int] at hE
  rw [cb, Option.bind_some] at hE
  simp only [Option.bind_some, List.getElem?_cons_zero, List.getElem?_cons_succ, int?_int, AVal.bool?, AVal.ptr?, AVal.sl?, AVal.tup?, AVal.agg?, AVal.ifc?, AVal.fn?, AVal.str?, List.head?_cons, List.tail_cons, List.isEmpty_nil, cond_true, cond_false, Option.isNone_some, Option.isNone_none, Bool.not_true, Bool.not_false, decide_true, decide_false, beq_self_eq_true, bne_self_eq_false, Int.reduceBEq, Int.reduceBNe, Int.cast_ofNat_Int] at hE
  -- the second part
  have part2 : ∀ M3 : Mem, M3.get M.n = M2.get M.n → M3.get M1.n = M2.get M1.n → ∃ M', p7_2 C prog.meth (w : Int) M.n M1.n (cond (okB op d s o i) (wordN op d s o i : Int) 0) (errI (okB op d s o i)) (cond (okB op' d' s' o' i') (wordN op' d' s' o' i' : Int) 0) (errI (okB op' d' s' o' i')) M3 = some (.bool true, M') := by
    intro M3 k1 k2
    have hE := p7_2_eq C prog.meth (w : Int) M.n M1.n (cond (okB op d s o i) (wordN op d s o i : Int) 0) (errI (okB op d s o i)) (cond (okB op' d' s' o' i') (wordN op' d' s' o' i' : Int) 0) (errI (okB op' d' s' o' i')) M3
    have g1' := k1.trans g12
    have g2' := k2.trans g2
    rw [(errI_ne _).1, (errI_ne _).1] at hE
    simp only [ldI_at g1', ldI_at g2', Option.bind_some, List.getElem?_cons_zero, List.getElem?_cons_succ, int?_int, AVal.bool?, AVal.ptr?, AVal.sl?, AVal.tup?, AVal.agg?, AVal.ifc?, AVal.fn?, AVal.str?, List.head?_cons, List.tail_cons, List.isEmpty_nil, cond_true, cond_false, Option.isNone_some, Option.isNone_none, Bool.not_true, Bool.not_false, decide_true, decide_false, beq_self_eq_true, bne_self_eq_false, Int.reduceBEq, Int.reduceBNe, Int.cast_ofNat_Int] at hE
    obtain ⟨M4, q4⟩ := back_end hw M3
    refine ⟨M4, hE.trans ?_⟩
    cases hok : okB op d s o i with
    | false => exact q4
    | true =>
      cases hok' : okB op' d' s' o' i' with
      | false => exact q4
      | true =>
        simp only [cond_true]
        rw [same_word h h' hok hok']
        exact q4
  rw [(errI_ne _).1] at hE
  cases hok : okB op d s o i with
  | false =>
    rw [hok, cond_false, cond_false] at hE
    obtain ⟨M', q⟩ := part2 M2 rfl rfl
    rw [hok] at q
    exact ⟨M', c7 (hE.trans q)⟩
  | true =>
    rw [hok, cond_true, cond_true] at hE
    have hE1 := p7_1_eq C prog.meth (w : Int) M.n M1.n (wordN op d s o i : Int) (errI true) (cond (okB op' d' s' o' i') (wordN op' d' s' o' i' : Int) 0) (errI (okB op' d' s' o' i')) M2
    obtain ⟨Mc, cc⟩ := Decode_word h hok
    unfold insnA at cc
    obtain ⟨M3, e3, g3, u3, n3⟩ := alloc_at M2 ⟨[.int .u8 0, .int .u8 0, .int .u8 0, .int .i16 0, .int .i32 0], .fixed⟩
    obtain ⟨M4, s4, g4, n4, b4⟩ := st_at (i := 0) (vs := [.int .u8 (op : Int), .int .u8 d, .int .u8 s, .int .i16 o, .int .i32 i]) g3 (by simp)
    have g4' : M4.get M2.n = some ⟨[.int .u8 (op : Int), .int .u8 d, .int .u8 s, .int .i16 o, .int .i32 i], .fixed⟩ := g4
    have k1 : M4.get M.n = M2.get M.n := by rw [b4.2 _ (by omega) (by omega), u3.2 _ (by omega)]
    have k2 : M4.get M1.n = M2.get M1.n := by rw [b4.2 _ (by omega) (by omega), u3.2 _ (by omega)]
    have g1' := k1.trans g12
    obtain ⟨Md, cd, _⟩ := Check_B (M := Mem.empty) h
    rw [hok] at cd
    rw [cc, Option.bind_some] at hE1
    simp only [Option.bind_some, List.getElem?_cons_zero, List.getElem?_cons_succ, int?_int, AVal.bool?, AVal.ptr?, AVal.sl?, AVal.tup?, AVal.agg?, AVal.ifc?, AVal.fn?, AVal.str?, List.head?_cons, List.tail_cons, List.isEmpty_nil, cond_true, cond_false, Option.isNone_some, Option.isNone_none, Bool.not_true, Bool.not_false, decide_true, decide_false, beq_self_eq_true, bne_self_eq_false, Int.reduceBEq, Int.reduceBNe, Int.cast_ofNat_Int, e3] at hE1
    rw [s4, Option.bind_some] at hE1
    simp only [ldI_at g4', ldI_at g1', Option.bind_some, List.getElem?_cons_zero, List.getElem?_cons_succ, int?_int, AVal.bool?, AVal.ptr?, AVal.sl?, AVal.tup?, AVal.agg?, AVal.ifc?, AVal.fn?, AVal.str?, List.head?_cons, List.tail_cons, List.isEmpty_nil, cond_true, cond_false, Option.isNone_some, Option.isNone_none, Bool.not_true, Bool.not_false, decide_true, decide_false, beq_self_eq_true, bne_self_eq_false, Int.reduceBEq, Int.reduceBNe, Int.cast_ofNat_Int, Bool.and_true] at hE1
    rw [cd, Option.bind_some] at hE1
    simp only [Option.bind_some, List.getElem?_cons_zero, List.getElem?_cons_succ, int?_int, AVal.bool?, AVal.ptr?, AVal.sl?, AVal.tup?, AVal.agg?, AVal.ifc?, AVal.fn?, AVal.str?, List.head?_cons, List.tail_cons, List.isEmpty_nil, cond_true, cond_false, Option.isNone_some, Option.isNone_none, Bool.not_true, Bool.not_false, decide_true, decide_false, beq_self_eq_true, bne_self_eq_false, Int.reduceBEq, Int.reduceBNe, Int.cast_ofNat_Int, (errI_ne true).2.1] at hE1
    obtain ⟨M', q⟩ := part2 M4 k1 k2
    rw [hok] at q
    exact ⟨M', c7 (hE.trans (hE1.trans q))⟩
end
theorem InsnBack_law : ∀ avs M, M.Whole → okL M.n avs → ShowsArgs M [(true, [.int .u8, .int .u8, .int .u8, .int .i16, .int .i32]), (true, [.int .u8, .int .u8, .int .u8, .int .i16, .int .i32]), (false, [.int .u64])] avs → ∃ M', C 7 avs M = some (.bool true, M') := by
  intro avs M hM hok h
  rw [ShowsArgs] at h
  obtain ⟨v, _, rfl, hv, h⟩ := h
  rw [ShowsArgs] at h
  obtain ⟨v2, _, rfl, hv2, h⟩ := h
  simp only [ShowsArgs, ShowsArg] at h
  obtain ⟨v, _, rfl, ⟨t, ht, hv3⟩, rfl⟩ := h
  obtain rfl : t = .int .u64 := by simpa using ht.symm
  simp only [Shows] at hv3
  obtain ⟨n, rfl, hn⟩ := hv3
  have := wf_u64 hn
  obtain ⟨w, rfl⟩ : ∃ w : Nat, n = (w : Int) := ⟨n.toNat, by omega⟩
  obtain ⟨op, d, s, o, i, rfl, hR⟩ := insn_arg hv
  obtain ⟨op', d', s', o', i', rfl, hR'⟩ := insn_arg hv2
  exact InsnBack_C hR hR' (by omega) M
end Go.Proofs.Ytpdelhcokcikaaa.M
