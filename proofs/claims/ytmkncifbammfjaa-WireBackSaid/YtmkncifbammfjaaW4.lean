import Derived.Test.YtmkncifbammfjaaW3
set_option linter.unusedVariables false
set_option linter.unusedSimpArgs false
set_option linter.unnecessarySimpa false
set_option maxRecDepth 100000
namespace Go.Proofs.Ytmkncifbammfjaa.M
open Go.Abs Go.RowKit
section
variable {M M0 M' : Mem} {ca ta cb tb w : SlV} {code : List Ins} {tabs : List (List Pr)} {ys zs : List Int}
theorem Arg.b (h : Arg M ca ta code tabs) : ca.2.1 < 2 ^ 60 ∧ ta.2.1 < 2 ^ 60 ∧ ∀ T ∈ tabs, T.length < 2 ^ 60 := by
  have h1 := h.lc
  have h2 := h.lt
  unfold reachBytes at h1 h2
  exact ⟨by omega, by omega, fun T hT => by have := h.lp T hT; unfold reachBytes at this; omega⟩
theorem up_pack {code : List Ins} {tabs : List (List Pr)} (h : Mok code tabs) : upE (packB code tabs) = 0 ∧ upA (packB code tabs) = 0 ∧ upC (packB code tabs) = code ∧ upT (packB code tabs) = tabs := by
  have e := unp_pack h
  have e0 : upE (packB code tabs) = 0 := by unfold upE; rw [e]
  refine ⟨e0, ?_, ?_, ?_⟩
  · unfold upA; rw [if_pos e0]
  · unfold upC; rw [if_pos e0, e]
  · unfold upT; rw [if_pos e0, e]
theorem WireBack_C {v : SlV} {xs : List Int} (h : Arg M ca ta code tabs) (hs : Src M v xs) (hb : Byt xs) (hl : xs.length ≤ 140737488351232) : ∃ M', C 5 [mv ca ta, .sl v.1 v.2.1 v.2.2] M = some (.bool true, M') := by
  have hE := p5_0_eq C prog.meth ca.1 ca.2.1 ca.2.2 ta.1 ta.2.1 ta.2.2 v.1 v.2.1 v.2.2 M
  obtain ⟨b1, b2, b3⟩ := h.b
  have hxl := hs.len
  obtain ⟨M1, e1, u1, n1, l0, l1⟩ := mbox M ca ta
  obtain ⟨Mw, cw, _⟩ := awake_C Mem.empty
  obtain ⟨M2, wp, c2, u2, o2, f2⟩ := Pack_C (h.m.upto u1) h.w
  have c2 : C 9 [.agg [.sl ca.1 ca.2.1 ca.2.2, .sl ta.1 ta.2.1 ta.2.2]] M1 = _ := c2
  have l0' := ldL_upto l0 u2
  have l1' := ldL_upto l1 u2
  obtain ⟨M3, c3, u3⟩ := WCheck_C (h.m.upto (u1.trans u2)) h.w.i
  have c3 : C 11 [.agg [.sl ca.1 ca.2.1 ca.2.2, .sl ta.1 ta.2.1 ta.2.2]] M2 = _ := c3
  simp only [Option.bind_some, List.getElem?_cons_zero, List.getElem?_cons_succ, int?_int, AVal.bool?, AVal.ptr?, AVal.sl?, AVal.tup?, AVal.agg?, AVal.ifc?, AVal.fn?, AVal.str?, List.head?_cons, List.tail_cons, List.isEmpty_nil, cond_true, cond_false, Option.isNone_some, Option.isNone_none, Bool.not_true, Bool.not_false, decide_true, decide_false, beq_self_eq_true, bne_self_eq_false, Int.reduceBEq, Int.reduceBNe, Int.cast_ofNat_Int, e1, cw, l0, l1] at hE
  rw [c2, Option.bind_some] at hE
  simp only [Option.bind_some, List.getElem?_cons_zero, List.getElem?_cons_succ, int?_int, AVal.bool?, AVal.ptr?, AVal.sl?, AVal.tup?, AVal.agg?, AVal.ifc?, AVal.fn?, AVal.str?, List.head?_cons, List.tail_cons, List.isEmpty_nil, cond_true, cond_false, Option.isNone_some, Option.isNone_none, Bool.not_true, Bool.not_false, decide_true, decide_false, beq_self_eq_true, bne_self_eq_false, Int.reduceBEq, Int.reduceBNe, Int.cast_ofNat_Int, l0', l1'] at hE
  rw [c3, Option.bind_some] at hE
  have q1 : ((chkM code tabs == 0) == (chkM code tabs == 0)) = true := by simp
  simp only [Option.bind_some, List.getElem?_cons_zero, List.getElem?_cons_succ, int?_int, AVal.bool?, AVal.ptr?, AVal.sl?, AVal.tup?, AVal.agg?, AVal.ifc?, AVal.fn?, AVal.str?, List.head?_cons, List.tail_cons, List.isEmpty_nil, cond_true, cond_false, Option.isNone_some, Option.isNone_none, Bool.not_true, Bool.not_false, decide_true, decide_false, beq_self_eq_true, bne_self_eq_false, Int.reduceBEq, Int.reduceBNe, Int.cast_ofNat_Int, q1] at hE
  have two : ∀ Mx, M.Upto Mx → ∃ M', p5_2 C prog.meth v.1 v.2.1 v.2.2 Mx = some (.bool true, M') := fun Mx hu => by
    have hF := p5_2_eq C prog.meth v.1 v.2.1 v.2.2 Mx
    obtain ⟨M4, cc, tc, c4, u4, h4⟩ := Unpack_C (hs.upto hu) hb hl
    obtain ⟨M5, M6, e5, s6, u6, n6, a0, a1⟩ := mbox2 M4 cc tc
    rw [c4, Option.bind_some] at hF
    simp only [Option.bind_some, List.getElem?_cons_zero, List.getElem?_cons_succ, int?_int, AVal.bool?, AVal.ptr?, AVal.sl?, AVal.tup?, AVal.agg?, AVal.ifc?, AVal.fn?, AVal.str?, List.head?_cons, List.tail_cons, List.isEmpty_nil, cond_true, cond_false, Option.isNone_some, Option.isNone_none, Bool.not_true, Bool.not_false, decide_true, decide_false, beq_self_eq_true, bne_self_eq_false, Int.reduceBEq, Int.reduceBNe, Int.cast_ofNat_Int, e5, s6] at hF
    have hm := h4.md.upto u6
    by_cases hz : upE xs = 0
    · have q2 : (upE xs != 0) = false := by simp [hz]
      obtain ⟨ok, bk⟩ := pack_unp hb hz
      have eC : upC xs = (unp xs).code := by unfold upC; rw [if_pos hz]
      have eT : upT xs = (unp xs).tabs := by unfold upT; rw [if_pos hz]
      rw [eC, eT] at hm
      obtain ⟨M7, wq, c7, u7, o7, f7⟩ := Pack_C hm ⟨ok.i, ok.p⟩
      have c7 : C 9 [.agg [.sl cc.1 cc.2.1 cc.2.2, .sl tc.1 tc.2.1 tc.2.2]] M6 = _ := c7
      have hk := chkM_zero.2 ok.m
      have eP : packOr (unp xs).code (unp xs).tabs = xs := by unfold packOr; rw [if_pos hk, bk]
      rw [eP] at o7
      rw [hk] at c7
      have hEq := EqBytes_C o7.ints (hs.upto (hu.trans (u4.trans (u6.trans u7)))).ints (by have := o7.1; omega)
      rw [decide_eq_true rfl] at hEq
      simp only [Option.bind_some, List.getElem?_cons_zero, List.getElem?_cons_succ, int?_int, AVal.bool?, AVal.ptr?, AVal.sl?, AVal.tup?, AVal.agg?, AVal.ifc?, AVal.fn?, AVal.str?, List.head?_cons, List.tail_cons, List.isEmpty_nil, cond_true, cond_false, Option.isNone_some, Option.isNone_none, Bool.not_true, Bool.not_false, decide_true, decide_false, beq_self_eq_true, bne_self_eq_false, Int.reduceBEq, Int.reduceBNe, Int.cast_ofNat_Int, q2, a0, a1] at hF
      rw [c7, Option.bind_some] at hF
      simp only [Option.bind_some, List.getElem?_cons_zero, List.getElem?_cons_succ, int?_int, AVal.bool?, AVal.ptr?, AVal.sl?, AVal.tup?, AVal.agg?, AVal.ifc?, AVal.fn?, AVal.str?, List.head?_cons, List.tail_cons, List.isEmpty_nil, cond_true, cond_false, Option.isNone_some, Option.isNone_none, Bool.not_true, Bool.not_false, decide_true, decide_false, beq_self_eq_true, bne_self_eq_false, Int.reduceBEq, Int.reduceBNe, Int.cast_ofNat_Int, hEq] at hF
      exact ⟨M7, hF⟩
    · have q2 : (upE xs != 0) = true := by simp [hz]
      simp only [Option.bind_some, List.getElem?_cons_zero, List.getElem?_cons_succ, int?_int, AVal.bool?, AVal.ptr?, AVal.sl?, AVal.tup?, AVal.agg?, AVal.ifc?, AVal.fn?, AVal.str?, List.head?_cons, List.tail_cons, List.isEmpty_nil, cond_true, cond_false, Option.isNone_some, Option.isNone_none, Bool.not_true, Bool.not_false, decide_true, decide_false, beq_self_eq_true, bne_self_eq_false, Int.reduceBEq, Int.reduceBNe, Int.cast_ofNat_Int, q2] at hF
      have hG := p5_3_eq C prog.meth v.1 v.2.1 v.2.2 M4.n (upA xs) M6
      have eC : upC xs = [] := by unfold upC; rw [if_neg hz]
      have eT : upT xs = [] := by unfold upT; rw [if_neg hz]
      rw [eC, eT] at hm
      obtain ⟨m1, m2⟩ := hm.lens
      simp only [List.length_nil] at m1 m2
      obtain ⟨M7, c7, _⟩ := same_C hm (Md.nil M6) (by omega) (by omega) (fun T hT => by simp at hT)
      have c7 : C 19 [.agg [.sl cc.1 cc.2.1 cc.2.2, .sl tc.1 tc.2.1 tc.2.2], .agg [.sl none 0 (.known 0), .sl none 0 (.known 0)]] M6 = _ := c7
      have q3 : upA xs ≥ 0 := by unfold upA; rw [if_neg hz]; omega
      have q4 : upA xs ≤ (v.2.1 : Int) := by unfold upA; rw [if_neg hz]; omega
      simp only [Option.bind_some, List.getElem?_cons_zero, List.getElem?_cons_succ, int?_int, AVal.bool?, AVal.ptr?, AVal.sl?, AVal.tup?, AVal.agg?, AVal.ifc?, AVal.fn?, AVal.str?, List.head?_cons, List.tail_cons, List.isEmpty_nil, cond_true, cond_false, Option.isNone_some, Option.isNone_none, Bool.not_true, Bool.not_false, decide_true, decide_false, beq_self_eq_true, bne_self_eq_false, Int.reduceBEq, Int.reduceBNe, Int.cast_ofNat_Int, a0, a1, c7, q3, q4] at hG
      exact ⟨M7, hF.trans hG⟩
  by_cases hz : chkM code tabs = 0
  · have q2 : (chkM code tabs == 0) = true := by simp [hz]
    simp only [Option.bind_some, List.getElem?_cons_zero, List.getElem?_cons_succ, int?_int, AVal.bool?, AVal.ptr?, AVal.sl?, AVal.tup?, AVal.agg?, AVal.ifc?, AVal.fn?, AVal.str?, List.head?_cons, List.tail_cons, List.isEmpty_nil, cond_true, cond_false, Option.isNone_some, Option.isNone_none, Bool.not_true, Bool.not_false, decide_true, decide_false, beq_self_eq_true, bne_self_eq_false, Int.reduceBEq, Int.reduceBNe, Int.cast_ofNat_Int, q2] at hE
    have hF := p5_1_eq C prog.meth v.1 v.2.1 v.2.2 M.n wp.1 wp.2.1 wp.2.2 M3
    have hk := chkM_zero.1 hz
    have mok : Mok code tabs := ⟨hk, h.w.i, h.w.p⟩
    have eP : packOr code tabs = packB code tabs := by unfold packOr; rw [if_pos hz]
    rw [eP] at o2
    have hpl := pack_len hk
    obtain ⟨M4, cc, tc, c4, u4, h4⟩ := Unpack_C (Src.own (o2.upto u3)) (pack_byt hk) (by omega)
    obtain ⟨x1, x2, x3, x4⟩ := up_pack mok
    rw [x1, x2] at c4
    rw [x3, x4] at h4
    obtain ⟨M5, M6, e5, s6, u6, n6, a0, a1⟩ := mbox2 M4 cc tc
    have u26 : M2.Upto M6 := u3.trans (u4.trans u6)
    have l0_6 := ldL_upto l0' u26
    have l1_6 := ldL_upto l1' u26
    have hm := h4.md.upto u6
    obtain ⟨m1, m2⟩ := hm.lens
    obtain ⟨m3, m4⟩ := h.m.lens
    obtain ⟨M7, c7, u7⟩ := same_C hm (h.m.upto (u1.trans (u2.trans u26))) (by omega) (by omega) b3
    have c7 : C 19 [.agg [.sl cc.1 cc.2.1 cc.2.2, .sl tc.1 tc.2.1 tc.2.2], .agg [.sl ca.1 ca.2.1 ca.2.2, .sl ta.1 ta.2.1 ta.2.2]] M6 = _ := c7
    rw [c4, Option.bind_some] at hF
    simp only [Option.bind_some, List.getElem?_cons_zero, List.getElem?_cons_succ, int?_int, AVal.bool?, AVal.ptr?, AVal.sl?, AVal.tup?, AVal.agg?, AVal.ifc?, AVal.fn?, AVal.str?, List.head?_cons, List.tail_cons, List.isEmpty_nil, cond_true, cond_false, Option.isNone_some, Option.isNone_none, Bool.not_true, Bool.not_false, decide_true, decide_false, beq_self_eq_true, bne_self_eq_false, Int.reduceBEq, Int.reduceBNe, Int.cast_ofNat_Int, e5, s6, a0, a1, l0_6, l1_6, c7] at hF
    obtain ⟨M8, c8⟩ := two M7 (u1.trans (u2.trans (u26.trans u7)))
    exact ⟨M8, c5 (hE.trans (hF.trans c8))⟩
  · have q2 : (chkM code tabs == 0) = false := by simp [hz]
    simp only [Option.bind_some, List.getElem?_cons_zero, List.getElem?_cons_succ, int?_int, AVal.bool?, AVal.ptr?, AVal.sl?, AVal.tup?, AVal.agg?, AVal.ifc?, AVal.fn?, AVal.str?, List.head?_cons, List.tail_cons, List.isEmpty_nil, cond_true, cond_false, Option.isNone_some, Option.isNone_none, Bool.not_true, Bool.not_false, decide_true, decide_false, beq_self_eq_true, bne_self_eq_false, Int.reduceBEq, Int.reduceBNe, Int.cast_ofNat_Int, q2] at hE
    obtain ⟨M8, c8⟩ := two M3 (u1.trans (u2.trans u3))
    exact ⟨M8, c5 (hE.trans c8)⟩
end
theorem WireBack_law : ∀ avs M, M.Whole → okL M.n avs → ShowsArgs M [(true, [.sl 12 [.int .u8, .int .u8, .int .u8, .int .i16, .int .i32], .sl 24 [.sl 16 [.int .u64, .int .u64]]]), (false, [.sl 1 [.int .u8]])] avs → ∃ M', C 5 avs M = some (.bool true, M') := by
  intro avs M hM hok h
  simp only [ShowsArgs, ShowsArg] at h
  obtain ⟨v, _, rfl, ⟨cs, rfl, hv⟩, v2, _, rfl, ⟨t, ht, hv2⟩, rfl⟩ := h
  obtain rfl : t = .sl 1 [.int .u8] := by simpa using ht.symm
  obtain ⟨ca, ta, code, tabs, rfl, ha⟩ := mod_of hv
  obtain ⟨s, xs, rfl, hs, hb, hl⟩ := bytes_of hv2
  exact WireBack_C ha hs hb hl
end Go.Proofs.Ytmkncifbammfjaa.M
