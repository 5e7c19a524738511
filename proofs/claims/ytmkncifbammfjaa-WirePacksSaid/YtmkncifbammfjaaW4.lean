import Derived.Test.YtmkncifbammfjaaW3
set_option linter.unusedVariables false
set_option linter.unusedSimpArgs false
set_option linter.unnecessarySimpa false
set_option maxRecDepth 100000
namespace Go.Proofs.Ytmkncifbammfjaa.M
open Go.Abs Go.RowKit
section
variable {M M0 M' : Mem} {ca ta cb tb w : SlV} {code : List Ins} {tabs : List (List Pr)} {ys zs : List Int}
theorem Arg.b (h : Arg M ca ta code tabs) : ca.2.1 < 2 ^ 60 ∧ ta.2.1 < 2 ^ 60 ∧ ∀ T ∈ tabs, T.length < 2 ^ 60 := by
  have h1 := h.lc
  have h2 := h.lt
  unfold reachBytes at h1 h2
  exact ⟨by omega, by omega, fun T hT => by have := h.lp T hT; unfold reachBytes at this; omega⟩
theorem packOr_len (code : List Ins) (tabs : List (List Pr)) : (packOr code tabs).length ≤ 100002 := by
  unfold packOr
  split
  · rename_i hz; exact pack_len (chkM_zero.1 hz)
  · simp
theorem WirePacks_C (h : Arg M ca ta code tabs) : ∃ M', C 3 [mv ca ta] M = some (.bool true, M') := by
  have hE := p3_0_eq C prog.meth ca.1 ca.2.1 ca.2.2 ta.1 ta.2.1 ta.2.2 M
  have hlc := h.lc
  have hlt := h.lt
  have hlp := h.lp
  unfold reachBytes at hlc hlt hlp
  obtain ⟨M1, e1, u1, n1, l0, l1⟩ := mbox M ca ta
  obtain ⟨M2, cb, tb, c2, u2, hm2⟩ := Copy_C (h.m.upto u1) (by omega) (by omega) (fun T hT => by have := hlp T hT; omega)
  have c2 : C 8 [.agg [.sl ca.1 ca.2.1 ca.2.2, .sl ta.1 ta.2.1 ta.2.2]] M1 = some (.agg [.sl cb.1 cb.2.1 cb.2.2, .sl tb.1 tb.2.1 tb.2.2], M2) := c2
  obtain ⟨M3, M4, e3, s4, u4, n4, a0, a1⟩ := mbox2 M2 cb tb
  obtain ⟨M5, wa, c5, u5, o5, f5⟩ := Pack_C (hm2.upto u4) h.w
  have c5 : C 9 [.agg [.sl cb.1 cb.2.1 cb.2.2, .sl tb.1 tb.2.1 tb.2.2]] M4 = _ := c5
  obtain ⟨M6, wb, c6, u6, o6, f6⟩ := Pack_C (hm2.upto (u4.trans u5)) h.w
  have c6 : C 9 [.agg [.sl cb.1 cb.2.1 cb.2.2, .sl tb.1 tb.2.1 tb.2.2]] M5 = _ := c6
  obtain ⟨M7, wr, c7, u7, o7, f7⟩ := RPack_C (h.m.upto (u1.trans (u2.trans (u4.trans (u5.trans u6))))) h.w
  have c7 : C 10 [.agg [.sl ca.1 ca.2.1 ca.2.2, .sl ta.1 ta.2.1 ta.2.2]] M6 = _ := c7
  have u47 := u5.trans (u6.trans u7)
  obtain ⟨M8, c8, u8⟩ := WCheck_C (hm2.upto (u4.trans u47)) h.w.i
  have c8 : C 11 [.agg [.sl cb.1 cb.2.1 cb.2.2, .sl tb.1 tb.2.1 tb.2.2]] M7 = _ := c8
  have u17 : M1.Upto M7 := u2.trans (u4.trans u47)
  obtain ⟨M9, cc9, u9⟩ := WRCheck_C (h.m.upto (u1.trans (u17.trans u8))) h.w.i
  have cc9 : C 12 [.agg [.sl ca.1 ca.2.1 ca.2.2, .sl ta.1 ta.2.1 ta.2.2]] M8 = _ := cc9
  have u79 := u8.trans u9
  have hpl := packOr_len code tabs
  have lwa := o5.1
  have lwb := o6.1
  have hEq := EqBytes_C (o5.upto (u6.trans (u7.trans u79))).ints (o7.upto u79).ints (by omega)
  rw [decide_eq_true rfl] at hEq
  obtain ⟨b1, b2, b3⟩ := h.b
  obtain ⟨m1, m2⟩ := hm2.lens
  obtain ⟨m3, m4⟩ := h.m.lens
  obtain ⟨M10, c10, u10⟩ := WSame_C (hm2.upto (u4.trans (u47.trans u79))) (h.m.upto (u1.trans (u17.trans u79))) (by omega) (by omega) b3
  have c10 : C 14 [.agg [.sl cb.1 cb.2.1 cb.2.2, .sl tb.1 tb.2.1 tb.2.2], .agg [.sl ca.1 ca.2.1 ca.2.2, .sl ta.1 ta.2.1 ta.2.2]] M9 = _ := c10
  have a0_5 := ldL_upto a0 u5
  have a1_5 := ldL_upto a1 u5
  have a0_7 := ldL_upto a0 u47
  have a1_7 := ldL_upto a1 u47
  have a0_9 := ldL_upto a0 (u47.trans u79)
  have a1_9 := ldL_upto a1 (u47.trans u79)
  have u16 : M1.Upto M6 := u2.trans (u4.trans (u5.trans u6))
  have l0_6 := ldL_upto l0 u16
  have l1_6 := ldL_upto l1 u16
  have l0_8 := ldL_upto l0 (u17.trans u8)
  have l1_8 := ldL_upto l1 (u17.trans u8)
  have l0_9 := ldL_upto l0 (u17.trans u79)
  have l1_9 := ldL_upto l1 (u17.trans u79)
  have g1 : M1.get M.n = some ⟨[.sl ca.1 ca.2.1 ca.2.2, .sl ta.1 ta.2.1 ta.2.2], .fixed⟩ := by rw [← e1]; exact get_alloc_self _ _
  have g7 := u17.get g1
  have st : M7.still M.n 0 [.sl ca.1 ca.2.1 ca.2.2, .sl ta.1 ta.2.1 ta.2.2] = true := still2 (by rw [ld_fix g7]; rfl) (by rw [ld_fix g7]; rfl)
  have q1 : (chkM code tabs != chkM code tabs) = false := by simp
  simp only [Option.bind_some, List.getElem?_cons_zero, List.getElem?_cons_succ, int?_int, AVal.bool?, AVal.ptr?, AVal.sl?, AVal.tup?, AVal.agg?, AVal.ifc?, AVal.fn?, AVal.str?, List.head?_cons, List.tail_cons, List.isEmpty_nil, cond_true, cond_false, Option.isNone_some, Option.isNone_none, Bool.not_true, Bool.not_false, decide_true, decide_false, beq_self_eq_true, bne_self_eq_false, Int.reduceBEq, Int.reduceBNe, Int.cast_ofNat_Int, e1, l0, l1, c2, e3, s4, a0, a1] at hE
  rw [c5, Option.bind_some] at hE
  simp only [Option.bind_some, List.getElem?_cons_zero, List.getElem?_cons_succ, int?_int, AVal.bool?, AVal.ptr?, AVal.sl?, AVal.tup?, AVal.agg?, AVal.ifc?, AVal.fn?, AVal.str?, List.head?_cons, List.tail_cons, List.isEmpty_nil, cond_true, cond_false, Option.isNone_some, Option.isNone_none, Bool.not_true, Bool.not_false, decide_true, decide_false, beq_self_eq_true, bne_self_eq_false, Int.reduceBEq, Int.reduceBNe, Int.cast_ofNat_Int, a0_5, a1_5] at hE
  rw [c6, Option.bind_some] at hE
  simp only [Option.bind_some, List.getElem?_cons_zero, List.getElem?_cons_succ, int?_int, AVal.bool?, AVal.ptr?, AVal.sl?, AVal.tup?, AVal.agg?, AVal.ifc?, AVal.fn?, AVal.str?, List.head?_cons, List.tail_cons, List.isEmpty_nil, cond_true, cond_false, Option.isNone_some, Option.isNone_none, Bool.not_true, Bool.not_false, decide_true, decide_false, beq_self_eq_true, bne_self_eq_false, Int.reduceBEq, Int.reduceBNe, Int.cast_ofNat_Int, l0_6, l1_6] at hE
  rw [c7, Option.bind_some] at hE
  simp only [Option.bind_some, List.getElem?_cons_zero, List.getElem?_cons_succ, int?_int, AVal.bool?, AVal.ptr?, AVal.sl?, AVal.tup?, AVal.agg?, AVal.ifc?, AVal.fn?, AVal.str?, List.head?_cons, List.tail_cons, List.isEmpty_nil, cond_true, cond_false, Option.isNone_some, Option.isNone_none, Bool.not_true, Bool.not_false, decide_true, decide_false, beq_self_eq_true, bne_self_eq_false, Int.reduceBEq, Int.reduceBNe, Int.cast_ofNat_Int, a0_7, a1_7] at hE
  rw [c8, Option.bind_some] at hE
  simp only [Option.bind_some, List.getElem?_cons_zero, List.getElem?_cons_succ, int?_int, AVal.bool?, AVal.ptr?, AVal.sl?, AVal.tup?, AVal.agg?, AVal.ifc?, AVal.fn?, AVal.str?, List.head?_cons, List.tail_cons, List.isEmpty_nil, cond_true, cond_false, Option.isNone_some, Option.isNone_none, Bool.not_true, Bool.not_false, decide_true, decide_false, beq_self_eq_true, bne_self_eq_false, Int.reduceBEq, Int.reduceBNe, Int.cast_ofNat_Int, l0_8, l1_8] at hE
  rw [cc9, Option.bind_some] at hE
  simp only [Option.bind_some, List.getElem?_cons_zero, List.getElem?_cons_succ, int?_int, AVal.bool?, AVal.ptr?, AVal.sl?, AVal.tup?, AVal.agg?, AVal.ifc?, AVal.fn?, AVal.str?, List.head?_cons, List.tail_cons, List.isEmpty_nil, cond_true, cond_false, Option.isNone_some, Option.isNone_none, Bool.not_true, Bool.not_false, decide_true, decide_false, beq_self_eq_true, bne_self_eq_false, Int.reduceBEq, Int.reduceBNe, Int.cast_ofNat_Int, q1, hEq, a0_9, a1_9, l0_9, l1_9] at hE
  rw [c10, Option.bind_some] at hE
  simp only [Option.bind_some, List.getElem?_cons_zero, List.getElem?_cons_succ, int?_int, AVal.bool?, AVal.ptr?, AVal.sl?, AVal.tup?, AVal.agg?, AVal.ifc?, AVal.fn?, AVal.str?, List.head?_cons, List.tail_cons, List.isEmpty_nil, cond_true, cond_false, Option.isNone_some, Option.isNone_none, Bool.not_true, Bool.not_false, decide_true, decide_false, beq_self_eq_true, bne_self_eq_false, Int.reduceBEq, Int.reduceBNe, Int.cast_ofNat_Int, st] at hE
  have hF := p3_1_eq C prog.meth wa.1 wa.2.1 wa.2.2 wb.1 wb.2.1 wb.2.2 wr.1 wr.2.1 wr.2.2 M10
  have hb5 := u5.1
  have hb6 := u6.1
  have hb7 := u7.1
  have hb8 := u8.1
  have hb9 := u9.1
  have hb10 := u10.1
  have lta := o5.lt
  have ltb := o6.lt
  have ltr := o7.lt
  have oB : OwnK .u8 M10 wb (packOr code tabs) := o6.upto (u7.trans (u79.trans u10))
  have oR : OwnK .u8 M10 wr (packOr code tabs) := o7.upto (u79.trans u10)
  have loop : ∀ (d i : Nat) (Mx : Mem) (zs : List Int), i + d = wa.2.1 → OwnK .u8 Mx wa zs → (∀ o, o < M10.n → o ∉ fpS wa → Mx.get o = M10.get o) → M10.n ≤ Mx.n → ∃ M', p3_2 C prog.meth wa.1 wa.2.1 wa.2.2 wb.1 wb.2.1 wb.2.2 wr.1 wr.2.1 wr.2.2 (i : Int) Mx = some (.bool true, M') := by
    intro d
    induction d with
    | zero =>
      intro i Mx zs hi ho hk hn
      have hG := p3_2_eq C prog.meth wa.1 wa.2.1 wa.2.2 wb.1 wb.2.1 wb.2.2 wr.1 wr.2.1 wr.2.2 (i : Int) Mx
      have q : ¬ ((i : Int) < (wa.2.1 : Int)) := by omega
      have hEq := EqBytes_C (oB.same (M' := Mx) (fun o ho => hk o (by have := ltb o ho; omega) (fun e => by have := lta o e; have := f6 o ho; omega))).ints (oR.same (M' := Mx) (fun o ho => hk o (by have := ltr o ho; omega) (fun e => by have := lta o e; have := f7 o ho; omega))).ints (by omega)
      rw [decide_eq_true rfl] at hEq
      obtain ⟨Mw, cw, _⟩ := awake_C Mem.empty
      simp only [Option.bind_some, List.getElem?_cons_zero, List.getElem?_cons_succ, int?_int, AVal.bool?, AVal.ptr?, AVal.sl?, AVal.tup?, AVal.agg?, AVal.ifc?, AVal.fn?, AVal.str?, List.head?_cons, List.tail_cons, List.isEmpty_nil, cond_true, cond_false, Option.isNone_some, Option.isNone_none, Bool.not_true, Bool.not_false, decide_true, decide_false, beq_self_eq_true, bne_self_eq_false, Int.reduceBEq, Int.reduceBNe, Int.cast_ofNat_Int, q, hEq, cw] at hG
      exact ⟨Mx, hG⟩
    | succ d ih =>
      intro i Mx zs hi ho hk hn
      have hG := p3_2_eq C prog.meth wa.1 wa.2.1 wa.2.2 wb.1 wb.2.1 wb.2.2 wr.1 wr.2.1 wr.2.2 (i : Int) Mx
      have q : ((i : Int) < (wa.2.1 : Int)) := by omega
      have k0 : (0 : Int) ≤ (i : Int) := by omega
      have k1 : Nat.blt i wa.2.1 = true := Mem.blt_iff.2 (by omega)
      have w1 : IntKind.wrap .i64 ((i : Int) + 1) = ((i + 1 : Nat) : Int) := by rw [wrap_i64 (by omega) (by omega)]; rfl
      obtain ⟨o, hp, hv⟩ := ho.get (i := i) (by omega)
      obtain ⟨o', M9', hp', hf', s9, o9, n9, b9⟩ := ho.set (i := i) (by omega) (IntKind.wrap .u8 ((BitVec.ofInt (IntKind.bits .u8) (zs[i]'(by have := ho.1; omega)) ^^^ BitVec.ofInt (IntKind.bits .u8) 90).toNat))
      rw [hp] at hp'
      obtain rfl : o = o' := by cases hp'; rfl
      simp only [Option.bind_some, List.getElem?_cons_zero, List.getElem?_cons_succ, int?_int, AVal.bool?, AVal.ptr?, AVal.sl?, AVal.tup?, AVal.agg?, AVal.ifc?, AVal.fn?, AVal.str?, List.head?_cons, List.tail_cons, List.isEmpty_nil, cond_true, cond_false, Option.isNone_some, Option.isNone_none, Bool.not_true, Bool.not_false, decide_true, decide_false, beq_self_eq_true, bne_self_eq_false, Int.reduceBEq, Int.reduceBNe, Int.cast_ofNat_Int, q, k0, k1, Int.toNat_natCast, hp, Nat.zero_add, Nat.mul_one, hv, s9, w1] at hG
      obtain ⟨M', c'⟩ := ih (i + 1) M9' _ (by omega) o9 (fun q hq hn' => by rw [b9.2 q (by omega) (fun e => hn' (by rw [hf', e]; simp)), hk q hq hn']) (by omega)
      exact ⟨M', hG.trans c'⟩
  obtain ⟨M', c'⟩ := loop wa.2.1 0 M10 _ (by omega) (o5.upto (u6.trans (u7.trans (u79.trans u10)))) (fun _ _ _ => rfl) (Nat.le_refl _)
  exact ⟨M', c3 (hE.trans (hF.trans c'))⟩
end
theorem WirePacks_law : ∀ avs M, M.Whole → okL M.n avs → ShowsArgs M [(true, [.sl 12 [.int .u8, .int .u8, .int .u8, .int .i16, .int .i32], .sl 24 [.sl 16 [.int .u64, .int .u64]]])] avs → ∃ M', C 3 avs M = some (.bool true, M') := by
  intro avs M hM hok h
  simp only [ShowsArgs, ShowsArg] at h
  obtain ⟨v, _, rfl, ⟨cs, rfl, hv⟩, rfl⟩ := h
  obtain ⟨ca, ta, code, tabs, rfl, ha⟩ := mod_of hv
  exact WirePacks_C ha
end Go.Proofs.Ytmkncifbammfjaa.M
