import Derived.Test.YtmkncifbammfjaaW3
set_option linter.unusedVariables false
set_option linter.unusedSimpArgs false
set_option linter.unnecessarySimpa false
set_option maxRecDepth 100000
namespace Go.Proofs.Ytmkncifbammfjaa.M
open Go.Abs Go.RowKit
section
variable {M M0 M' : Mem} {ca ta cb tb w : SlV} {code : List Ins} {tabs : List (List Pr)} {ys zs : List Int}
theorem Arg.b (h : Arg M ca ta code tabs) : ca.2.1 < 2 ^ 60 ∧ ta.2.1 < 2 ^ 60 ∧ ∀ T ∈ tabs, T.length < 2 ^ 60 := by
  have h1 := h.lc
  have h2 := h.lt
  unfold reachBytes at h1 h2
  exact ⟨by omega, by omega, fun T hT => by have := h.lp T hT; unfold reachBytes at this; omega⟩
theorem packOr_len (code : List Ins) (tabs : List (List Pr)) : (packOr code tabs).length ≤ 100002 := by
  unfold packOr
  split
  · rename_i hz; exact pack_len (chkM_zero.1 hz)
  · simp
theorem WirePacks_C (h : Arg M ca ta code tabs) : ∃ M', C 3 [mv ca ta] M = some (.bool true, M') ∧ M.Upto M' := by
  have hE := p3_0_eq C prog.meth ca.1 ca.2.1 ca.2.2 ta.1 ta.2.1 ta.2.2 M
  have hlc := h.lc
  have hlt := h.lt
  have hlp := h.lp
  unfold reachBytes at hlc hlt hlp
  obtain ⟨M1, e1, u1, n1, l0, l1⟩ := mbox M ca ta
  obtain ⟨M2, cb, tb, c2, u2, hm2⟩ := Copy_C (h.m.upto u1) (by omega) (by omega) (fun T hT => by have := hlp T hT; omega)
  have c2 : C 8 [.agg [.sl ca.1 ca.2.1 ca.2.2, .sl ta.1 ta.2.1 ta.2.2]] M1 = some (.agg [.sl cb.1 cb.2.1 cb.2.2, .sl tb.1 tb.2.1 tb.2.2], M2) := c2
  obtain ⟨M3, M4, e3, s4, u4, n4, a0, a1⟩ := mbox2 M2 cb tb
  obtain ⟨M5, wa, c5, u5, o5, f5⟩ := Pack_C (hm2.upto u4) h.w
  have c5 : C 9 [.agg [.sl cb.1 cb.2.1 cb.2.2, .sl tb.1 tb.2.1 tb.2.2]] M4 = _ := c5
  obtain ⟨M6, wb, c6, u6, o6, f6⟩ := Pack_C (hm2.upto (u4.trans u5)) h.w
  have c6 : C 9 [.agg [.sl cb.1 cb.2.1 cb.2.2, .sl tb.1 tb.2.1 tb.2.2]] M5 = _ := c6
  obtain ⟨M7, wr, c7, u7, o7, f7⟩ := RPack_C (h.m.upto (u1.trans (u2.trans (u4.trans (u5.trans u6))))) h.w
  have c7 : C 10 [.agg [.sl ca.1 ca.2.1 ca.2.2, .sl ta.1 ta.2.1 ta.2.2]] M6 = _ := c7
  have u47 := u5.trans (u6.trans u7)
  obtain ⟨M8, c8, u8⟩ := WCheck_C (hm2.upto (u4.trans u47)) h.w.i
  have c8 : C 11 [.agg [.sl cb.1 cb.2.1 cb.2.2, .sl tb.1 tb.2.1 tb.2.2]] M7 = _ := c8
  have u17 : M1.Upto M7 := u2.trans (u4.trans u47)
  obtain ⟨M9, cc9, u9⟩ := WRCheck_C (h.m.upto (u1.trans (u17.trans u8))) h.w.i
  have cc9 : C 12 [.agg [.sl ca.1 ca.2.1 ca.2.2, .sl ta.1 ta.2.1 ta.2.2]] M8 = _ := cc9
  have u79 := u8.trans u9
  have hpl := packOr_len code tabs
  have lwa := o5.1
  have lwb := o6.1
  have hEq := EqBytes_C (o5.upto (u6.trans (u7.trans u79))).ints (o7.upto u79).ints (by omega)
  rw [decide_eq_true rfl] at hEq
  obtain ⟨b1, b2, b3⟩ := h.b
  obtain ⟨m1, m2⟩ := hm2.lens
  obtain ⟨m3, m4⟩ := h.m.lens
  obtain ⟨M10, c10, u10⟩ := WSame_C (hm2.upto (u4.trans (u47.trans u79))) (h.m.upto (u1.trans (u17.trans u79))) (by omega) (by omega) b3
  have c10 : C 14 [.agg [.sl cb.1 cb.2.1 cb.2.2, .sl tb.1 tb.2.1 tb.2.2], .agg [.sl ca.1 ca.2.1 ca.2.2, .sl ta.1 ta.2.1 ta.2.2]] M9 = _ := c10
  have a0_5 := ldL_upto a0 u5
  have a1_5 := ldL_upto a1 u5
  have a0_7 := ldL_upto a0 u47
  have a1_7 := ldL_upto a1 u47
  have a0_9 := ldL_upto a0 (u47.trans u79)
  have a1_9 := ldL_upto a1 (u47.trans u79)
  have u16 : M1.Upto M6 := u2.trans (u4.trans (u5.trans u6))
  have l0_6 := ldL_upto l0 u16
  have l1_6 := ldL_upto l1 u16
  have l0_8 := ldL_upto l0 (u17.trans u8)
  have l1_8 := ldL_upto l1 (u17.trans u8)
  have l0_9 := ldL_upto l0 (u17.trans u79)
  have l1_9 := ldL_upto l1 (u17.trans u79)
  have g1 : M1.get M.n = some ⟨[.sl ca.1 ca.2.1 ca.2.2, .sl ta.1 ta.2.1 ta.2.2], .fixed⟩ := by rw [← e1]; exact get_alloc_self _ _
  have g7 := u17.get g1
  have st : M7.still M.n 0 [.sl ca.1 ca.2.1 ca.2.2, .sl ta.1 ta.2.1 ta.2.2] = true := still2 (by rw [ld_fix g7]; rfl) (by rw [ld_fix g7]; rfl)
  have q1 : (chkM code tabs != chkM code tabs) = false := by simp
  simp only [int?_int, rvs, Int.reduceBEq, Int.reduceBNe, Int.cast_ofNat_Int, e1, l0, l1, c2, e3, s4, a0, a1] at hE
  rw [c5, Option.bind_some] at hE
  simp only [int?_int, rvs, Int.reduceBEq, Int.reduceBNe, Int.cast_ofNat_Int, a0_5, a1_5] at hE
  rw [c6, Option.bind_some] at hE
  simp only [int?_int, rvs, Int.reduceBEq, Int.reduceBNe, Int.cast_ofNat_Int, l0_6, l1_6] at hE
  rw [c7, Option.bind_some] at hE
  simp only [int?_int, rvs, Int.reduceBEq, Int.reduceBNe, Int.cast_ofNat_Int, a0_7, a1_7] at hE
  rw [c8, Option.bind_some] at hE
  simp only [int?_int, rvs, Int.reduceBEq, Int.reduceBNe, Int.cast_ofNat_Int, l0_8, l1_8] at hE
  rw [cc9, Option.bind_some] at hE
  simp only [int?_int, rvs, Int.reduceBEq, Int.reduceBNe, Int.cast_ofNat_Int, q1, hEq, a0_9, a1_9, l0_9, l1_9] at hE
  rw [c10, Option.bind_some] at hE
  simp only [int?_int, rvs, Int.reduceBEq, Int.reduceBNe, Int.cast_ofNat_Int, st] at hE
  have hF := p3_1_eq C prog.meth wa.1 wa.2.1 wa.2.2 wb.1 wb.2.1 wb.2.2 wr.1 wr.2.1 wr.2.2 M10
  have hb5 := u5.1
  have hb6 := u6.1
  have hb7 := u7.1
  have hb8 := u8.1
  have hb9 := u9.1
  have hb10 := u10.1
  have lta := o5.lt
  have ltb := o6.lt
  have ltr := o7.lt
  have oB : OwnK .u8 M10 wb (packOr code tabs) := o6.upto (u7.trans (u79.trans u10))
  have oR : OwnK .u8 M10 wr (packOr code tabs) := o7.upto (u79.trans u10)
  have loop : ∀ (d i : Nat) (Mx : Mem) (zs : List Int), i + d = wa.2.1 → OwnK .u8 Mx wa zs → (∀ o, o < M10.n → o ∉ fpS wa → Mx.get o = M10.get o) → M10.n ≤ Mx.n → ∃ M', p3_2 C prog.meth wa.1 wa.2.1 wa.2.2 wb.1 wb.2.1 wb.2.2 wr.1 wr.2.1 wr.2.2 (i : Int) Mx = some (.bool true, M') ∧ M10.n ≤ M'.n ∧ ∀ o, o < M10.n → o ∉ fpS wa → M'.get o = M10.get o := by
    intro d
    induction d with
    | zero =>
      intro i Mx zs hi ho hk hn
      have hG := p3_2_eq C prog.meth wa.1 wa.2.1 wa.2.2 wb.1 wb.2.1 wb.2.2 wr.1 wr.2.1 wr.2.2 (i : Int) Mx
      have q : ¬ ((i : Int) < (wa.2.1 : Int)) := by omega
      have hEq := EqBytes_C (oB.same (M' := Mx) (fun o ho => hk o (by have := ltb o ho; omega) (fun e => by have := lta o e; have := f6 o ho; omega))).ints (oR.same (M' := Mx) (fun o ho => hk o (by have := ltr o ho; omega) (fun e => by have := lta o e; have := f7 o ho; omega))).ints (by omega)
      rw [decide_eq_true rfl] at hEq
      obtain ⟨Mw, cw, _⟩ := awake_C Mem.empty
      simp only [int?_int, rvs, Int.reduceBEq, Int.reduceBNe, Int.cast_ofNat_Int, q, hEq, cw] at hG
      exact ⟨Mx, hG, hn, hk⟩
    | succ d ih =>
      intro i Mx zs hi ho hk hn
      have hG := p3_2_eq C prog.meth wa.1 wa.2.1 wa.2.2 wb.1 wb.2.1 wb.2.2 wr.1 wr.2.1 wr.2.2 (i : Int) Mx
      have q : ((i : Int) < (wa.2.1 : Int)) := by omega
      have k0 : (0 : Int) ≤ (i : Int) := by omega
      have k1 : Nat.blt i wa.2.1 = true := Mem.blt_iff.2 (by omega)
      have w1 : IntKind.wrap .i64 ((i : Int) + 1) = ((i + 1 : Nat) : Int) := by rw [wrap_i64 (by omega) (by omega)]; rfl
      obtain ⟨o, hp, hv⟩ := ho.get (i := i) (by omega)
      obtain ⟨o', M9', hp', hf', s9, o9, n9, b9⟩ := ho.set (i := i) (by omega) (IntKind.wrap .u8 ((BitVec.ofInt (IntKind.bits .u8) (zs[i]'(by have := ho.1; omega)) ^^^ BitVec.ofInt (IntKind.bits .u8) 90).toNat))
      rw [hp] at hp'
      obtain rfl : o = o' := by cases hp'; rfl
      simp only [int?_int, rvs, Int.reduceBEq, Int.reduceBNe, Int.cast_ofNat_Int, q, k0, k1, Int.toNat_natCast, hp, Nat.zero_add, Nat.mul_one, hv, s9, w1] at hG
      obtain ⟨M', c', r'⟩ := ih (i + 1) M9' _ (by omega) o9 (fun q hq hn' => by rw [b9.2 q (by omega) (fun e => hn' (by rw [hf', e]; simp)), hk q hq hn']) (by omega)
      exact ⟨M', hG.trans c', r'⟩
  obtain ⟨M', c', r1, r2⟩ := loop wa.2.1 0 M10 _ (by omega) (o5.upto (u6.trans (u7.trans (u79.trans u10)))) (fun _ _ _ => rfl) (Nat.le_refl _)
  have u04 := u1.trans (u2.trans u4)
  have u010 := u04.trans (u47.trans (u79.trans u10))
  exact ⟨M', c3 (hE.trans (hF.trans c')), by have := u010.1; omega, fun o ho => by rw [r2 o (by have := u010.1; omega) (fun e => by have := f5 o e; have := u04.1; omega), u010.2 o ho]⟩
theorem up_pack {code : List Ins} {tabs : List (List Pr)} (h : Mok code tabs) : upE (packB code tabs) = 0 ∧ upA (packB code tabs) = 0 ∧ upC (packB code tabs) = code ∧ upT (packB code tabs) = tabs := by
  have e := unp_pack h
  have e0 : upE (packB code tabs) = 0 := by unfold upE; rw [e]
  refine ⟨e0, ?_, ?_, ?_⟩
  · unfold upA; rw [if_pos e0]
  · unfold upC; rw [if_pos e0, e]
  · unfold upT; rw [if_pos e0, e]
theorem WireBack_C {v : SlV} {xs : List Int} (h : Arg M ca ta code tabs) (hs : Src M v xs) (hb : Byt xs) (hl : xs.length ≤ 140737488351232) : ∃ M', C 5 [mv ca ta, .sl v.1 v.2.1 v.2.2] M = some (.bool true, M') ∧ M.Upto M' := by
  have hE := p5_0_eq C prog.meth ca.1 ca.2.1 ca.2.2 ta.1 ta.2.1 ta.2.2 v.1 v.2.1 v.2.2 M
  obtain ⟨b1, b2, b3⟩ := h.b
  have hxl := hs.len
  obtain ⟨M1, e1, u1, n1, l0, l1⟩ := mbox M ca ta
  obtain ⟨Mw, cw, _⟩ := awake_C Mem.empty
  obtain ⟨M2, wp, c2, u2, o2, f2⟩ := Pack_C (h.m.upto u1) h.w
  have c2 : C 9 [.agg [.sl ca.1 ca.2.1 ca.2.2, .sl ta.1 ta.2.1 ta.2.2]] M1 = _ := c2
  have l0' := ldL_upto l0 u2
  have l1' := ldL_upto l1 u2
  obtain ⟨M3, c3, u3⟩ := WCheck_C (h.m.upto (u1.trans u2)) h.w.i
  have c3 : C 11 [.agg [.sl ca.1 ca.2.1 ca.2.2, .sl ta.1 ta.2.1 ta.2.2]] M2 = _ := c3
  simp only [int?_int, rvs, Int.reduceBEq, Int.reduceBNe, Int.cast_ofNat_Int, e1, cw, l0, l1] at hE
  rw [c2, Option.bind_some] at hE
  simp only [int?_int, rvs, Int.reduceBEq, Int.reduceBNe, Int.cast_ofNat_Int, l0', l1'] at hE
  rw [c3, Option.bind_some] at hE
  have q1 : ((chkM code tabs == 0) == (chkM code tabs == 0)) = true := by simp
  simp only [int?_int, rvs, Int.reduceBEq, Int.reduceBNe, Int.cast_ofNat_Int, q1] at hE
  have two : ∀ Mx, M.Upto Mx → ∃ M', p5_2 C prog.meth v.1 v.2.1 v.2.2 Mx = some (.bool true, M') ∧ M.Upto M' := fun Mx hu => by
    have hF := p5_2_eq C prog.meth v.1 v.2.1 v.2.2 Mx
    obtain ⟨M4, cc, tc, c4, u4, h4⟩ := Unpack_C (hs.upto hu) hb hl
    obtain ⟨M5, M6, e5, s6, u6, n6, a0, a1⟩ := mbox2 M4 cc tc
    rw [c4, Option.bind_some] at hF
    simp only [int?_int, rvs, Int.reduceBEq, Int.reduceBNe, Int.cast_ofNat_Int, e5, s6] at hF
    have hm := h4.md.upto u6
    by_cases hz : upE xs = 0
    · have q2 : (upE xs != 0) = false := by simp [hz]
      obtain ⟨ok, bk⟩ := pack_unp hb hz
      have eC : upC xs = (unp xs).code := by unfold upC; rw [if_pos hz]
      have eT : upT xs = (unp xs).tabs := by unfold upT; rw [if_pos hz]
      rw [eC, eT] at hm
      obtain ⟨M7, wq, c7, u7, o7, f7⟩ := Pack_C hm ⟨ok.i, ok.p⟩
      have c7 : C 9 [.agg [.sl cc.1 cc.2.1 cc.2.2, .sl tc.1 tc.2.1 tc.2.2]] M6 = _ := c7
      have hk := chkM_zero.2 ok.m
      have eP : packOr (unp xs).code (unp xs).tabs = xs := by unfold packOr; rw [if_pos hk, bk]
      rw [eP] at o7
      rw [hk] at c7
      have hEq := EqBytes_C o7.ints (hs.upto (hu.trans (u4.trans (u6.trans u7)))).ints (by have := o7.1; omega)
      rw [decide_eq_true rfl] at hEq
      simp only [int?_int, rvs, Int.reduceBEq, Int.reduceBNe, Int.cast_ofNat_Int, q2, a0, a1] at hF
      rw [c7, Option.bind_some] at hF
      simp only [int?_int, rvs, Int.reduceBEq, Int.reduceBNe, Int.cast_ofNat_Int, hEq] at hF
      exact ⟨M7, hF, hu.trans (u4.trans (u6.trans u7))⟩
    · have q2 : (upE xs != 0) = true := by simp [hz]
      simp only [int?_int, rvs, Int.reduceBEq, Int.reduceBNe, Int.cast_ofNat_Int, q2] at hF
      have hG := p5_3_eq C prog.meth v.1 v.2.1 v.2.2 M4.n (upA xs) M6
      have eC : upC xs = [] := by unfold upC; rw [if_neg hz]
      have eT : upT xs = [] := by unfold upT; rw [if_neg hz]
      rw [eC, eT] at hm
      obtain ⟨m1, m2⟩ := hm.lens
      simp only [List.length_nil] at m1 m2
      obtain ⟨M7, c7, u7⟩ := same_C hm (Md.nil M6) (by omega) (by omega) (fun T hT => by simp at hT)
      have c7 : C 19 [.agg [.sl cc.1 cc.2.1 cc.2.2, .sl tc.1 tc.2.1 tc.2.2], .agg [.sl none 0 (.known 0), .sl none 0 (.known 0)]] M6 = _ := c7
      have q3 : upA xs ≥ 0 := by unfold upA; rw [if_neg hz]; omega
      have q4 : upA xs ≤ (v.2.1 : Int) := by unfold upA; rw [if_neg hz]; omega
      simp only [int?_int, rvs, Int.reduceBEq, Int.reduceBNe, Int.cast_ofNat_Int, a0, a1, c7, q3, q4] at hG
      exact ⟨M7, hF.trans hG, hu.trans (u4.trans (u6.trans u7))⟩
  by_cases hz : chkM code tabs = 0
  · have q2 : (chkM code tabs == 0) = true := by simp [hz]
    simp only [int?_int, rvs, Int.reduceBEq, Int.reduceBNe, Int.cast_ofNat_Int, q2] at hE
    have hF := p5_1_eq C prog.meth v.1 v.2.1 v.2.2 M.n wp.1 wp.2.1 wp.2.2 M3
    have hk := chkM_zero.1 hz
    have mok : Mok code tabs := ⟨hk, h.w.i, h.w.p⟩
    have eP : packOr code tabs = packB code tabs := by unfold packOr; rw [if_pos hz]
    rw [eP] at o2
    have hpl := pack_len hk
    obtain ⟨M4, cc, tc, c4, u4, h4⟩ := Unpack_C (Src.own (o2.upto u3)) (pack_byt hk) (by omega)
    obtain ⟨x1, x2, x3, x4⟩ := up_pack mok
    rw [x1, x2] at c4
    rw [x3, x4] at h4
    obtain ⟨M5, M6, e5, s6, u6, n6, a0, a1⟩ := mbox2 M4 cc tc
    have u26 : M2.Upto M6 := u3.trans (u4.trans u6)
    have l0_6 := ldL_upto l0' u26
    have l1_6 := ldL_upto l1' u26
    have hm := h4.md.upto u6
    obtain ⟨m1, m2⟩ := hm.lens
    obtain ⟨m3, m4⟩ := h.m.lens
    obtain ⟨M7, c7, u7⟩ := same_C hm (h.m.upto (u1.trans (u2.trans u26))) (by omega) (by omega) b3
    have c7 : C 19 [.agg [.sl cc.1 cc.2.1 cc.2.2, .sl tc.1 tc.2.1 tc.2.2], .agg [.sl ca.1 ca.2.1 ca.2.2, .sl ta.1 ta.2.1 ta.2.2]] M6 = _ := c7
    rw [c4, Option.bind_some] at hF
    simp only [int?_int, rvs, Int.reduceBEq, Int.reduceBNe, Int.cast_ofNat_Int, e5, s6, a0, a1, l0_6, l1_6, c7] at hF
    obtain ⟨M8, c8, u8⟩ := two M7 (u1.trans (u2.trans (u26.trans u7)))
    exact ⟨M8, c5 (hE.trans (hF.trans c8)), u8⟩
  · have q2 : (chkM code tabs == 0) = false := by simp [hz]
    simp only [int?_int, rvs, Int.reduceBEq, Int.reduceBNe, Int.cast_ofNat_Int, q2] at hE
    obtain ⟨M8, c8, u8⟩ := two M3 (u1.trans (u2.trans u3))
    exact ⟨M8, c5 (hE.trans c8), u8⟩
end
end Go.Proofs.Ytmkncifbammfjaa.M
namespace Go.Proofs.Ytmkncifbammfjaa.M
open Go.Abs Go.RowKit
section
variable {M M0 M' : Mem} {ca ta : SlV} {code : List Ins} {tabs : List (List Pr)}
theorem Arg.upto (h : Arg M ca ta code tabs) (hu : M.Upto M') : Arg M' ca ta code tabs := ⟨h.m.upto hu, h.w, h.lc, h.lt, h.lp⟩
theorem repl_flat {α : Type} (enc : α → List AVal) (x : α) : ∀ n, replZ (enc x) n = (List.replicate n x).flatMap enc
  | 0 => rfl
  | n + 1 => by rw [replZ, repl_flat enc x n, List.replicate_succ, List.flatMap_cons]
def exI : Ins := (36, 0, 0, 0, 0)
def zeI : Ins := (0, 0, 0, 0, 0)
theorem exI_r : InsR exI := wfm_exit.i exI (by simp [exI])
theorem zeI_r : InsR zeI := ⟨by decide, by decide, by decide, by decide, by decide⟩
theorem fill {n0 m : Nat} (hne : n0 ≠ m) : ∀ (d i : Nat) (M : Mem), i + d = 257 → M.get n0 = some ⟨encI exI, .fixed⟩ → M.get m = some ⟨(List.replicate i exI).flatMap encI ++ (List.replicate d zeI).flatMap encI, .fixed⟩ →
    ∃ M', p7_1 C prog.meth (some (n0, 0)) 1 (.known 1) (some (m, 0)) 257 (.known 257) (i : Int) M = p7_1 C prog.meth (some (n0, 0)) 1 (.known 1) (some (m, 0)) 257 (.known 257) 257 M' ∧ M'.get m = some ⟨(List.replicate 257 exI).flatMap encI, .fixed⟩ ∧ M'.n = M.n ∧ (∀ o, o ≠ m → o < M.n → M'.get o = M.get o) := by
  intro d
  induction d with
  | zero =>
    intro i M hi h0 h1
    obtain rfl : i = 257 := by omega
    exact ⟨M, rfl, by rw [h1]; simp, rfl, fun _ _ _ => rfl⟩
  | succ d ih =>
    intro i M hi h0 h1
    have hE := p7_1_eq C prog.meth (some (n0, 0)) 1 (.known 1) (some (m, 0)) 257 (.known 257) (i : Int) M
    have q : ((i : Int) < 257) := by omega
    have q1 : (0 : Int) ≤ (i : Int) := by omega
    have q2 : Nat.blt i 257 = true := Mem.blt_iff.2 (by omega)
    have q3 : Nat.blt 0 1 = true := rfl
    have hw : IntKind.wrap .i64 ((i : Int) + 1) = ((i + 1 : Nat) : Int) := by rw [wrap_i64 (by omega) (by omega)]; rfl
    have v0 : M.ldI .u8 n0 0 = some 36 := by rw [ldI_at h0]; rfl
    have v1 : M.ldI .u8 n0 1 = some 0 := by rw [ldI_at h0]; rfl
    have v2 : M.ldI .u8 n0 2 = some 0 := by rw [ldI_at h0]; rfl
    have v3 : M.ldI .i16 n0 3 = some 0 := by rw [ldI_at h0]; rfl
    have v4 : M.ldI .i32 n0 4 = some 0 := by rw [ldI_at h0]; rfl
    have e1 : (List.replicate (d + 1) zeI).flatMap encI = encI zeI ++ (List.replicate d zeI).flatMap encI := by rw [List.replicate_succ, List.flatMap_cons]
    have l1 : ((List.replicate i exI).flatMap encI).length = i * 5 := by rw [flatMap_length encI5, List.length_replicate]
    obtain ⟨M2, s2, g2, n2, b2⟩ := st_at (i := i * 5) (vs := encI exI) h1 (by rw [e1]; simp only [List.length_append, l1, encI5 exI, encI5 zeI]; omega)
    rw [e1, ← l1, overL_mid _ (by rw [encI5 exI, encI5 zeI]), ← List.append_assoc] at g2
    have e2 : (List.replicate i exI).flatMap encI ++ encI exI = (List.replicate (i + 1) exI).flatMap encI := by rw [List.replicate_succ', List.flatMap_append]; simp
    rw [e2] at g2
    have s2 : M.st m (i * 5) [.int .u8 36, .int .u8 0, .int .u8 0, .int .i16 0, .int .i32 0] = some M2 := s2
    simp only [int?_int, rvs, Int.reduceBEq, Int.reduceBNe, Int.cast_ofNat_Int, slPtr, q, q1, q2, q3, Int.toNat_natCast, Nat.zero_mul, Nat.add_zero, Nat.zero_add, Nat.reduceAdd, v0, v1, v2, v3, v4, s2, hw] at hE
    obtain ⟨M', r1, r2, r3, r4⟩ := ih (i + 1) M2 (by omega) (by rw [b2.2 n0 (Mem.get_lt h0) hne]; exact h0) g2
    exact ⟨M', hE.trans r1, r2, by omega, fun o h1 h2 => by rw [r4 o h1 (by omega), b2.2 o h2 h1]⟩
def At (M : Mem) (x i : Nat) : Prop := ∃ (ca ta : SlV) (code : List Ins) (tabs : List (List Pr)), M.ldL x (i * 2) = some ca ∧ M.ldL x (i * 2 + 1) = some ta ∧ Arg M ca ta code tabs
theorem At.upto {x i : Nat} (h : At M x i) (hu : M.Upto M') : At M' x i := by
  obtain ⟨ca, ta, code, tabs, h1, h2, h3⟩ := h
  exact ⟨ca, ta, code, tabs, ldL_upto h1 hu, ldL_upto h2 hu, h3.upto hu⟩
theorem Src.none (M : Mem) : Src M (none, 0, .known 0) [] := ⟨rfl, fun h => by simp at h⟩
theorem list_loop {x : Nat} {a1 a4 : Option (Nat × Nat)} {l1 l4 : Nat} {c1 c4 : Cap} : ∀ (d i : Nat) (M : Mem), i + d = 9 → (∀ j, j < 9 → At M x j) →
    ∃ M', p7_2 C prog.meth a1 l1 c1 a4 l4 c4 (some (x, 0)) 9 (.known 9) (i : Int) M = p7_2 C prog.meth a1 l1 c1 a4 l4 c4 (some (x, 0)) 9 (.known 9) 9 M' ∧ M.Upto M' := by
  intro d
  induction d with
  | zero =>
    intro i M hi _
    obtain rfl : i = 9 := by omega
    exact ⟨M, rfl, Mem.Upto.refl _⟩
  | succ d ih =>
    intro i M hi hA
    have hE := p7_2_eq C prog.meth a1 l1 c1 a4 l4 c4 (some (x, 0)) 9 (.known 9) (i : Int) M
    have q : ((i : Int) < 9) := by omega
    have q1 : (0 : Int) ≤ (i : Int) := by omega
    have q2 : Nat.blt i 9 = true := Mem.blt_iff.2 (by omega)
    have hw : IntKind.wrap .i64 ((i : Int) + 1) = ((i + 1 : Nat) : Int) := by rw [wrap_i64 (by omega) (by omega)]; rfl
    obtain ⟨ca, ta, code, tabs, h1, h2, h3⟩ := hA i (by omega)
    obtain ⟨M1, k1, u1⟩ := WirePacks_C h3
    have k1 : C 3 [.agg [.sl ca.1 ca.2.1 ca.2.2, .sl ta.1 ta.2.1 ta.2.2]] M = _ := k1
    obtain ⟨M2, k2, u2⟩ := WireBack_C (h3.upto u1) (Src.none M1) (fun x hx => by simp at hx) (by decide)
    have k2 : C 5 [.agg [.sl ca.1 ca.2.1 ca.2.2, .sl ta.1 ta.2.1 ta.2.2], .sl none 0 (.known 0)] M1 = _ := k2
    have h1' := ldL_upto h1 u1
    have h2' := ldL_upto h2 u1
    simp only [int?_int, rvs, Int.reduceBEq, Int.reduceBNe, Int.cast_ofNat_Int, slPtr, q, q1, q2, Int.toNat_natCast, Nat.zero_add, h1, h2, k1, h1', h2', k2, hw] at hE
    obtain ⟨M', r1, r2⟩ := ih (i + 1) M2 (by omega) (fun j hj => ((hA j hj).upto u1).upto u2)
    exact ⟨M', hE.trans r1, u1.trans (u2.trans r2)⟩
def placesL : List Int := [0, 1, 4, 5, 6, 7, 8, 16, 17]
theorem placesL_at : ∀ i, i < 9 → ∃ pl, pl < 18 ∧ placesL[i]? = some ((pl : Nat) : Int) := by decide
theorem places_loop {x : Nat} {a1 a4 : Option (Nat × Nat)} {l1 l4 : Nat} {c1 c4 : Cap} : ∀ (d i : Nat) (M : Mem), i + d = 9 → M.get x = some ⟨placesL.map (.int .i64), .fixed⟩ →
    ∃ M', p7_3 C prog.meth a1 l1 c1 a4 l4 c4 (some (x, 0)) 9 (.known 9) (i : Int) M = p7_3 C prog.meth a1 l1 c1 a4 l4 c4 (some (x, 0)) 9 (.known 9) 9 M' ∧ M.Upto M' := by
  intro d
  induction d with
  | zero =>
    intro i M hi _
    obtain rfl : i = 9 := by omega
    exact ⟨M, rfl, Mem.Upto.refl _⟩
  | succ d ih =>
    intro i M hi hx
    have hE := p7_3_eq C prog.meth a1 l1 c1 a4 l4 c4 (some (x, 0)) 9 (.known 9) (i : Int) M
    have q : ((i : Int) < 9) := by omega
    have q1 : (0 : Int) ≤ (i : Int) := by omega
    have q2 : Nat.blt i 9 = true := Mem.blt_iff.2 (by omega)
    have hw : IntKind.wrap .i64 ((i : Int) + 1) = ((i + 1 : Nat) : Int) := by rw [wrap_i64 (by omega) (by omega)]; rfl
    obtain ⟨pl, hpl, hat⟩ := placesL_at i (by omega)
    obtain ⟨k1, s1⟩ := known_src M
    obtain ⟨M1, e1, g1, u1, n1⟩ := alloc_at M ⟨knownL.map (.int .u8), .fixed⟩
    rw [e1] at k1
    have xl := Mem.get_lt hx
    have hx1 : M1.get x = some ⟨placesL.map (.int .i64), .fixed⟩ := by rw [u1.2 x xl]; exact hx
    have v1 : M1.ldI .i64 x i = some (pl : Int) := by rw [ldI_at hx1, List.getElem?_map, hat]; rfl
    obtain ⟨M2, s2, g2, n2, b2⟩ := st_at (i := pl) (vs := [.int .u8 5]) g1 (by simp only [List.length_map, List.length_singleton]; show pl + 1 ≤ 18; omega)
    rw [overL_one, ← List.map_set] at g2
    have u2 : M.Upto M2 := ⟨by omega, fun o ho => by rw [b2.2 o (by omega) (by omega), u1.2 o ho]⟩
    have hb2 : Byt (knownL.set pl 5) := fun c hc => by
      rcases List.mem_or_eq_of_mem_set hc with h1 | h1
      · exact knownL_byt c h1
      · rw [h1]; exact ⟨by decide, by decide⟩
    have src2 : Src M2 (some (M.n, 0), 18, .known 18) (knownL.set pl 5) := ⟨by simp [knownL], fun _ => ⟨M.n, 0, knownL.set pl 5, .fixed, rfl, g2, by simp, by simp [knownL], (List.take_of_length_le (by simp [knownL])).symm, .inr ⟨18, rfl, Nat.le_refl _⟩⟩⟩
    obtain ⟨M3, k3, u3⟩ := WireUnpacks_C src2 hb2 (by simp [knownL])
    have k3 : C 4 [.sl (some (M.n, 0)) 18 (.known 18)] M2 = _ := k3
    have hx3 : M3.get x = some ⟨placesL.map (.int .i64), .fixed⟩ := by rw [(u2.trans u3).2 x xl]; exact hx
    have v3 : M3.ldI .i64 x i = some (pl : Int) := by rw [ldI_at hx3, List.getElem?_map, hat]; rfl
    obtain ⟨w, cut, sw, lw, _⟩ := src2.to (k2 := .i64) (j := pl) (by simp) (by simp only; omega)
    have cut : ∀ {β : Type} (M2' : Mem) (hu : M2.Upto M2') (K : Option (Nat × Nat) → Nat → Cap → Option β), slcK false 1 (some (M.n, 0)) 18 (.known 18) M2' none (some (.int .i64 (pl : Int))) none K = K w.1 w.2.1 w.2.2 := cut
    obtain ⟨M4, k4, u4⟩ := WireUnpacks_C (sw.upto u3) (hb2.take _) (by have := sw.len; simp only [List.length_take, List.length_set] at this ⊢; simp [knownL]; omega)
    have p0 : (0 : Int) ≤ (pl : Int) := by omega
    have p1 : Nat.blt pl 18 = true := Mem.blt_iff.2 hpl
    rw [k1, Option.bind_some] at hE
    simp only [int?_int, rvs, Int.reduceBEq, Int.reduceBNe, Int.cast_ofNat_Int, slPtr, q, q1, q2, Int.toNat_natCast, Nat.zero_add, Nat.mul_one, v1, p0, p1, s2, k3, v3] at hE
    rw [cut M3 u3, k4, Option.bind_some] at hE
    simp only [int?_int, rvs, Int.reduceBEq, Int.reduceBNe, Int.cast_ofNat_Int, hw] at hE
    have u04 := u2.trans (u3.trans u4)
    obtain ⟨M', r1, r2⟩ := ih (i + 1) M4 (by omega) (by rw [u04.2 x xl]; exact hx)
    exact ⟨M', hE.trans r1, u04.trans r2⟩
end
def upL : List (List Pr) := [[(1, 2)]]
def twL : List (List Pr) := [[(1, 2), (2, 3)]]
theorem chk_up : chkM [exI] upL = 0 := chkM_zero.2 ⟨by simp, by simp [upL], fun x hx => by
  simp only [List.mem_singleton] at hx
  subst hx; decide +kernel, fun T hT => by
  simp only [upL, List.mem_singleton] at hT
  subst hT
  exact ⟨by simp, fun i h => by simp at h⟩⟩
theorem chk_tw : chkM [exI] twL = 0 := chkM_zero.2 ⟨by simp, by simp [twL], fun x hx => by
  simp only [List.mem_singleton] at hx
  subst hx; decide +kernel, fun T hT => by
  simp only [twL, List.mem_singleton] at hT
  subst hT
  exact ⟨by simp, fun i h => by
    obtain rfl : i = 0 := by simp at h; omega
    simp only [List.getElem_cons_zero, Nat.zero_add, List.getElem_cons_succ]; omega⟩⟩
theorem len_up : (packOr [exI] upL).length = 35 ∧ (packOr [exI] upL)[16]? = some 1 := by
  unfold packOr; rw [if_pos chk_up]; decide +kernel
theorem len_tw : (packOr [exI] twL).length = 51 := by
  unfold packOr; rw [if_pos chk_tw]; decide +kernel
theorem turn_tw : upA ((packOr [exI] twL).set 40 1) = 33 ∧ upE ((packOr [exI] twL).set 40 1) = 190 := by
  unfold packOr; rw [if_pos chk_tw]; decide +kernel
theorem byt_tw : Byt ((packOr [exI] twL).set 40 1) := fun c hc => by
  have h := pack_byt (chkM_zero.1 chk_tw)
  unfold packOr at hc
  rw [if_pos chk_tw] at hc
  rcases List.mem_or_eq_of_mem_set hc with h1 | h1
  · exact h c h1
  · rw [h1]; exact ⟨by decide, by decide⟩
theorem prR {x y : Int} (hx : 0 ≤ x ∧ x < 100) (hy : 0 ≤ y ∧ y < 100) : PrR (x, y) := ⟨⟨hx.1, by have := hx.2; omega⟩, ⟨hy.1, by have := hy.2; omega⟩⟩
theorem wfm_of {code : List Ins} {tabs : List (List Pr)} (hc : ∀ x ∈ code, x = exI ∨ x = zeI) (ht : ∀ T ∈ tabs, ∀ p ∈ T, PrR p) : Wfm code tabs := ⟨fun x hx => by
  rcases hc x hx with rfl | rfl
  · exact exI_r
  · exact zeI_r, ht⟩
section
variable {M M0 M' : Mem}
theorem end_C {o4 n0 : Nat} (hx : Sl M 5 encI (some (n0, 0)) 1 (.known 1) [exI]) (hu : Sl M 2 encP (some (o4, 0)) 1 (.known 1) [(1, 2)]) : ∃ M', p7_4 C prog.meth (some (n0, 0)) 1 (.known 1) (some (o4, 0)) 1 (.known 1) M = some (.bool true, M') := by
  have hE := p7_4_eq C prog.meth (some (n0, 0)) 1 (.known 1) (some (o4, 0)) 1 (.known 1) M
  obtain ⟨M1, e1, g1, u1, n1⟩ := alloc_at M ⟨[.sl (some (o4, 0)) 1 (.known 1)], .fixed⟩
  have ht : Sl M1 1 encS (some (M.n, 0)) 1 (.known 1) [(some (o4, 0), 1, .known 1)] := Sl.whole (xs := [((some (o4, 0), 1, .known 1) : SlV)]) encS1 g1 (by simp) rfl
  have hm : Md M1 (some (n0, 0), 1, .known 1) (some (M.n, 0), 1, .known 1) [exI] upL := ⟨hx.upto encI5 (by omega) u1, _, ht, (Tbs.nil _).snoc (w := (some (o4, 0), 1, .known 1)) (hu.upto encP2 (by omega) u1)⟩
  obtain ⟨M2, w, k2, u2, ow, fw⟩ := Pack_C hm (wfm_of (by simp) (by
    intro T hT p hp
    simp only [upL, List.mem_singleton] at hT
    subst hT
    simp only [List.mem_singleton] at hp
    subst hp
    exact prR (by omega) (by omega)))
  have k2 : C 9 [.agg [.sl (some (n0, 0)) 1 (.known 1), .sl (some (M.n, 0)) 1 (.known 1)]] M1 = _ := k2
  rw [chk_up] at k2
  obtain ⟨Mw, cw, _⟩ := awake_C Mem.empty
  obtain ⟨wl, w16⟩ := len_up
  have hwl := ow.1
  rw [wl] at hwl
  obtain ⟨o, hp, hv⟩ := ow.get (i := 16) (by omega)
  have h16 : (packOr [exI] upL)[16]'(by omega) = 1 := by
    rw [List.getElem?_eq_getElem (by omega)] at w16
    exact Option.some.inj w16
  rw [h16] at hv
  have q1 : ((w.2.1 : Int) == 35) = true := by rw [← hwl]; rfl
  have q2 : Nat.blt 16 w.2.1 = true := Mem.blt_iff.2 (by omega)
  obtain ⟨k3, s3⟩ := known_src M2
  obtain ⟨M3, e3, g3, u3, n3⟩ := alloc_at M2 ⟨knownL.map (.int .u8), .fixed⟩
  rw [e3] at k3 s3
  obtain ⟨M4, e4, g4, u4, n4⟩ := alloc_at M3 ⟨[.int .u8 0], .fixed⟩
  have r3 : M4.raws 1 (some (M2.n, 0)) 18 (.known 18) = some (knownL.map (.int .u8)) := ints_raws.1 (s3.upto u4).ints
  have r4 : M4.raws 1 (some (M3.n, 0)) 1 (.known 1) = some ([(0 : Int)].map (.int .u8)) := ints_raws.1 (ints_whole (xs := [(0 : Int)]) (k := .u8) (c := .known 1) g4 (by simp) rfl)
  have app : ∀ {β : Type} (K : Option (Nat × Nat) → Nat → Cap → Mem → Option β), appK false 1 1 M4 (some (M2.n, 0)) 18 (.known 18) (.sl (some (M3.n, 0)) 1 (.known 1)) K = K (some (M4.n, 0)) 19 (.unk 0) (M4.alloc ⟨(knownL ++ [0]).map (.int .u8), .grow 1⟩) := fun K => by
    rw [appK_more r3 r4 (by omega) (by omega), List.map_append]
  have sA : Src (M4.alloc ⟨(knownL ++ [0]).map (.int .u8), .grow 1⟩) (some (M4.n, 0), 19, .unk 0) (knownL ++ [0]) := ⟨rfl, fun _ => ⟨M4.n, 0, knownL ++ [0], .grow 1, rfl, get_alloc_self _ _, by simp, by simp [knownL], rfl, .inl ⟨rfl, .inl rfl⟩⟩⟩
  obtain ⟨M5, k5, u5⟩ := WireUnpacks_C sA (Byt.app.2 ⟨knownL_byt, fun c hc => by simp only [List.mem_singleton] at hc; subst hc; exact ⟨by decide, by decide⟩⟩) (by simp [knownL])
  have k5 : C 4 [.sl (some (M4.n, 0)) 19 (.unk 0)] _ = _ := k5
  obtain ⟨M6, k6, u6⟩ := WireUnpacks_C (Src.none M5) (fun x hx => by simp at hx) (by decide)
  have k6 : C 4 [.sl none 0 (.known 0)] M5 = _ := k6
  simp only [e1] at hE
  rw [k2, Option.bind_some] at hE
  simp only [int?_int, rvs, Int.reduceBEq, Int.reduceBNe, Int.cast_ofNat_Int, cw, q1, q2, hp, Nat.zero_add, Nat.mul_one, hv, k3, e4] at hE
  rw [app, k5, Option.bind_some] at hE
  simp only [int?_int, rvs, Int.reduceBEq, Int.reduceBNe, Int.cast_ofNat_Int, k6] at hE
  exact ⟨M6, hE⟩
theorem twice_C {x o4 n0 : Nat} (hx : Sl M 5 encI (some (n0, 0)) 1 (.known 1) [exI]) (hu : Sl M 2 encP (some (o4, 0)) 1 (.known 1) [(1, 2)]) : ∃ M', p7_3 C prog.meth (some (n0, 0)) 1 (.known 1) (some (o4, 0)) 1 (.known 1) (some (x, 0)) 9 (.known 9) 9 M = some (.bool true, M') := by
  have hE := p7_3_eq C prog.meth (some (n0, 0)) 1 (.known 1) (some (o4, 0)) 1 (.known 1) (some (x, 0)) 9 (.known 9) 9 M
  have q : ¬ ((9 : Int) < 9) := by omega
  obtain ⟨M0, e0, g0, u0, n0'⟩ := alloc_at M ⟨[.int .u64 1, .int .u64 2, .int .u64 2, .int .u64 3], .fixed⟩
  obtain ⟨M1, e1, g1, u1, n1⟩ := alloc_at M0 ⟨[.sl (some (M.n, 0)) 2 (.known 2)], .fixed⟩
  have hT : Sl M0 2 encP (some (M.n, 0)) 2 (.known 2) [(1, 2), (2, 3)] := Sl.whole (xs := [((1, 2) : Pr), (2, 3)]) encP2 g0 (by simp) rfl
  have ht : Sl M1 1 encS (some (M0.n, 0)) 1 (.known 1) [(some (M.n, 0), 2, .known 2)] := Sl.whole (xs := [((some (M.n, 0), 2, .known 2) : SlV)]) encS1 g1 (by simp) rfl
  have hm : Md M1 (some (n0, 0), 1, .known 1) (some (M0.n, 0), 1, .known 1) [exI] twL := ⟨hx.upto encI5 (by omega) (u0.trans u1), _, ht, (Tbs.nil _).snoc (w := (some (M.n, 0), 2, .known 2)) (hT.upto encP2 (by omega) u1)⟩
  obtain ⟨M2, w, k2, u2, ow, fw⟩ := Pack_C hm (wfm_of (by simp) (by
    intro T hT p hp
    simp only [twL, List.mem_singleton] at hT
    subst hT
    simp only [List.mem_cons, List.not_mem_nil, or_false] at hp
    rcases hp with rfl | rfl
    · exact prR (by omega) (by omega)
    · exact prR (by omega) (by omega)))
  have k2 : C 9 [.agg [.sl (some (n0, 0)) 1 (.known 1), .sl (some (M0.n, 0)) 1 (.known 1)]] M1 = _ := k2
  rw [chk_tw] at k2
  have hwl := ow.1
  rw [len_tw] at hwl
  obtain ⟨o, M3, hp, hf, s3, o3, n3, b3⟩ := ow.set (i := 40) (by omega) 1
  have q1 : ((w.2.1 : Int) != 51) = false := by rw [← hwl]; rfl
  have q2 : Nat.blt 40 w.2.1 = true := Mem.blt_iff.2 (by omega)
  have lset : ((packOr [exI] twL).set 40 1).length = 51 := by rw [List.length_set, len_tw]
  obtain ⟨M4, ca, ta, k4, u4, nm⟩ := Unpack_C (Src.own o3) byt_tw (by omega)
  obtain ⟨t1, t2⟩ := turn_tw
  rw [t1, t2] at k4
  obtain ⟨M5, M6, e5, s6, u6, n6, _, _⟩ := mbox2 M4 ca ta
  obtain ⟨M7, k7, u7⟩ := WireUnpacks_C ((Src.own o3).upto (u4.trans u6)) byt_tw (by omega)
  have fo := fw o (by rw [hf]; simp)
  have keep : ∀ p, p < M1.n → M7.get p = M.get p ∨ M.n ≤ p := fun p hp' => by
    by_cases hlt : p < M.n
    · left
      rw [(u4.trans (u6.trans u7)).2 p (by have := u2.1; omega), b3.2 p (by have := u2.1; omega) (by omega), (u0.trans (u1.trans u2)).2 p hlt]
    · right; omega
  have hx7 : Sl M7 5 encI (some (n0, 0)) 1 (.known 1) [exI] := hx.same (fun p hp => by
    cases hp
    have hlt := hx.lt encI5 (by omega) (by omega)
    rcases keep n0 (by have := u0.1; have := u1.1; omega) with h | h
    · exact h
    · omega)
  have hu7 : Sl M7 2 encP (some (o4, 0)) 1 (.known 1) [(1, 2)] := hu.same (fun p hp => by
    cases hp
    have hlt := hu.lt encP2 (by omega) (by omega)
    rcases keep o4 (by have := u0.1; have := u1.1; omega) with h | h
    · exact h
    · omega)
  obtain ⟨M8, k8⟩ := end_C hx7 hu7
  simp only [int?_int, rvs, Int.reduceBEq, Int.reduceBNe, Int.cast_ofNat_Int, q, e0, e1] at hE
  rw [k2, Option.bind_some] at hE
  simp only [int?_int, rvs, Int.reduceBEq, Int.reduceBNe, Int.cast_ofNat_Int, q1, q2, hp, Nat.zero_add, Nat.mul_one, s3] at hE
  rw [k4, Option.bind_some] at hE
  simp only [int?_int, rvs, Int.reduceBEq, Int.reduceBNe, Int.cast_ofNat_Int, e5, s6] at hE
  rw [k7, Option.bind_some] at hE
  simp only [int?_int, rvs, Int.reduceBEq, Int.reduceBNe, Int.cast_ofNat_Int] at hE
  exact ⟨M8, hE.trans k8⟩
theorem At.of {x i : Nat} {cs : List AVal} {ca ta : SlV} {code : List Ins} {tabs : List (List Pr)} (hg : M.get x = some ⟨cs, .fixed⟩) (h1 : cs[i * 2]? = some (.sl ca.1 ca.2.1 ca.2.2)) (h2 : cs[i * 2 + 1]? = some (.sl ta.1 ta.2.1 ta.2.2)) (hm : Md M ca ta code tabs) (hw : Wfm code tabs) (hl : code.length ≤ 1000 ∧ tabs.length ≤ 1000 ∧ ∀ T ∈ tabs, T.length ≤ 1000) : At M x i := by
  obtain ⟨m1, m2⟩ := hm.lens
  refine ⟨ca, ta, code, tabs, ?_, ?_, hm, hw, ?_, ?_, fun T hT => ?_⟩
  · rw [ldL_at hg, h1]; rfl
  · rw [ldL_at hg, h2]; rfl
  · unfold reachBytes; omega
  · unfold reachBytes; omega
  · have := hl.2.2 T hT; unfold reachBytes; omega
theorem Tbs.nils (M : Mem) : ∀ n, Tbs M (List.replicate n (none, 0, .known 0)) (List.replicate n [])
  | 0 => Tbs.nil M
  | n + 1 => by
    rw [List.replicate_succ', List.replicate_succ']
    exact (Tbs.nils M n).snoc (Sl.nil _ _ _ _ _)
end
theorem WireNames_C {M : Mem} : ∃ M', C 7 [] M = some (.bool true, M') := by
  have hE := p7_0_eq C prog.meth M
  obtain ⟨Ma, ea, ga, ua, na⟩ := alloc_at M ⟨encI exI, .fixed⟩
  have ea : M.alloc ⟨[.int .u8 36, .int .u8 0, .int .u8 0, .int .i16 0, .int .i32 0], .fixed⟩ = Ma := ea
  obtain ⟨Mb, eb, gb, ub, nb⟩ := alloc_at Ma ⟨(List.replicate 257 zeI).flatMap encI, .fixed⟩
  have ebr : (replZ [.int .u8 0, .int .u8 0, .int .u8 0, .int .i16 0, .int .i32 0] 257 : List AVal) = (List.replicate 257 zeI).flatMap encI := repl_flat encI zeI 257
  obtain ⟨M0, f1, gm, nm, km⟩ := fill (n0 := M.n) (m := Ma.n) (by omega) 257 0 Mb (by omega) (by rw [ub.2 _ (by omega)]; exact ga) (by rw [gb]; simp)
  have f1 : p7_1 C prog.meth (some (M.n, 0)) 1 (.known 1) (some (Ma.n, 0)) 257 (.known 257) 0 Mb = _ := f1
  simp only [ea, ebr, eb] at hE
  have g0 : M0.get M.n = some ⟨encI exI, .fixed⟩ := by rw [km _ (by omega) (by omega), ub.2 _ (by omega)]; exact ga
  have hF := p7_1_eq C prog.meth (some (M.n, 0)) 1 (.known 1) (some (Ma.n, 0)) 257 (.known 257) 257 M0
  have q : ¬ ((257 : Int) < 257) := by omega
  obtain ⟨M1, e1, g1, u1, n1⟩ := alloc_at M0 ⟨[.int .u64 1, .int .u64 2], .fixed⟩
  obtain ⟨M2, e2, g2, u2, n2⟩ := alloc_at M1 ⟨[.int .u64 2, .int .u64 1, .int .u64 1, .int .u64 1], .fixed⟩
  obtain ⟨M3, e3, g3, u3, n3⟩ := alloc_at M2 ⟨replZ [.sl none 0 (.known 0)] 5, .fixed⟩
  obtain ⟨M4, e4, g4, u4, n4⟩ := alloc_at M3 ⟨replZ [.sl none 0 (.known 0)] 4, .fixed⟩
  obtain ⟨M5, e5, g5, u5, n5⟩ := alloc_at M4 ⟨[.sl (some (M1.n, 0)) 2 (.known 2)], .fixed⟩
  obtain ⟨M6, e6, g6, u6, n6⟩ := alloc_at M5 ⟨[.sl (some (M0.n, 0)) 1 (.known 1), .sl none 0 (.known 0)], .fixed⟩
  obtain ⟨M7, e7, g7, u7, n7⟩ := alloc_at M6 ⟨encI zeI, .fixed⟩
  have e7 : M6.alloc ⟨[.int .u8 0, .int .u8 0, .int .u8 0, .int .i16 0, .int .i32 0], .fixed⟩ = M7 := e7
  obtain ⟨M8, e8, g8, u8, n8⟩ := alloc_at M7 ⟨replZ [.int .u64 0, .int .u64 0] 65, .fixed⟩
  obtain ⟨M9, e9, g9, u9, n9⟩ := alloc_at M8 ⟨[.sl (some (M7.n, 0)) 65 (.known 65)], .fixed⟩
  obtain ⟨M10, e10, g10, u10, n10⟩ := alloc_at M9 ⟨[.sl none 0 (.known 0), .sl none 0 (.known 0), .sl (some (Ma.n, 0)) 257 (.known 257), .sl none 0 (.known 0), .sl (some (Ma.n, 0)) 256 (.known 257), .sl none 0 (.known 0), .sl (some (M.n, 0)) 1 (.known 1), .sl (some (M2.n, 0)) 5 (.known 5), .sl (some (M.n, 0)) 1 (.known 1), .sl (some (M3.n, 0)) 4 (.known 4), .sl (some (M.n, 0)) 1 (.known 1), .sl (some (M4.n, 0)) 1 (.known 1), .sl (some (M.n, 0)) 1 (.known 1), .sl (some (M5.n, 0)) 2 (.known 2), .sl (some (M6.n, 0)) 1 (.known 1), .sl none 0 (.known 0), .sl (some (M.n, 0)) 1 (.known 1), .sl (some (M8.n, 0)) 1 (.known 1)], .fixed⟩
  have cut : ∀ {β : Type} (Mx : Mem) (K : Option (Nat × Nat) → Nat → Cap → Option β), slcK false 5 (some (Ma.n, 0)) 257 (.known 257) Mx none (some (.int .i64 256)) none K = K (some (Ma.n, 0)) 256 (.known 257) := fun Mx K => slcK_known_to (h := 256) (n := 257) (by omega)
  simp only [int?_int, rvs, Int.reduceBEq, Int.reduceBNe, Int.cast_ofNat_Int, q, e1, e2, cut, e3, e4, e5, e6, e7, e8, e9, e10, same_refl, Option.getD_some] at hF
  have u0A : M0.Upto M10 := u1.trans (u2.trans (u3.trans (u4.trans (u5.trans (u6.trans (u7.trans (u8.trans (u9.trans u10))))))))
  have hex : Sl M10 5 encI (some (M.n, 0)) 1 (.known 1) [exI] := (Sl.whole (M := M0) (xs := [exI]) (kd := .fixed) encI5 (by rw [g0]; rfl) (by simp) rfl).upto encI5 (by omega) u0A
  have hmany : Sl M10 5 encI (some (Ma.n, 0)) 257 (.known 257) (List.replicate 257 exI) := by
    have := (Sl.whole (M := M0) (xs := List.replicate 257 exI) (c := .known 257) encI5 gm (by simp) rfl).upto encI5 (by omega) u0A
    rwa [List.length_replicate] at this
  have hsome : Sl M10 5 encI (some (Ma.n, 0)) 256 (.known 257) (List.replicate 256 exI) := by
    have := (Sl.part (M := M0) (xs := List.replicate 257 exI) (l := 0) (h := 256) (c := .known 257) encI5 gm (by simp) (by rw [Nat.zero_mul]; rfl) (by omega) (by simp)).upto encI5 (by omega) u0A
    simpa using this
  have hup : Sl M10 2 encP (some (M0.n, 0)) 1 (.known 1) [(1, 2)] := (Sl.whole (M := M1) (xs := [((1, 2) : Pr)]) encP2 g1 (by simp) rfl).upto encP2 (by omega) (u2.trans (u3.trans (u4.trans (u5.trans (u6.trans (u7.trans (u8.trans (u9.trans u10))))))))
  have hdown : Sl M10 2 encP (some (M1.n, 0)) 2 (.known 2) [(2, 1), (1, 1)] := (Sl.whole (M := M2) (xs := [((2, 1) : Pr), (1, 1)]) encP2 g2 (by simp) rfl).upto encP2 (by omega) (u3.trans (u4.trans (u5.trans (u6.trans (u7.trans (u8.trans (u9.trans u10)))))))
  have h5 : Sl M10 1 encS (some (M2.n, 0)) 5 (.known 5) (List.replicate 5 (none, 0, .known 0)) := by
    have := (Sl.whole (M := M3) (xs := List.replicate 5 ((none, 0, .known 0) : SlV)) (kd := .fixed) (c := .known 5) encS1 (by rw [g3]; rfl) (by simp) rfl).upto encS1 (by omega) (u4.trans (u5.trans (u6.trans (u7.trans (u8.trans (u9.trans u10))))))
    rwa [List.length_replicate] at this
  have h4 : Sl M10 1 encS (some (M3.n, 0)) 4 (.known 4) (List.replicate 4 (none, 0, .known 0)) := by
    have := (Sl.whole (M := M4) (xs := List.replicate 4 ((none, 0, .known 0) : SlV)) (kd := .fixed) (c := .known 4) encS1 (by rw [g4]; rfl) (by simp) rfl).upto encS1 (by omega) (u5.trans (u6.trans (u7.trans (u8.trans (u9.trans u10)))))
    rwa [List.length_replicate] at this
  have hd : Sl M10 1 encS (some (M4.n, 0)) 1 (.known 1) [(some (M1.n, 0), 2, .known 2)] := (Sl.whole (M := M5) (xs := [((some (M1.n, 0), 2, .known 2) : SlV)]) encS1 g5 (by simp) rfl).upto encS1 (by omega) (u6.trans (u7.trans (u8.trans (u9.trans u10))))
  have hun : Sl M10 1 encS (some (M5.n, 0)) 2 (.known 2) [(some (M0.n, 0), 1, .known 1), (none, 0, .known 0)] := (Sl.whole (M := M6) (xs := [((some (M0.n, 0), 1, .known 1) : SlV), (none, 0, .known 0)]) encS1 g6 (by simp) rfl).upto encS1 (by omega) (u7.trans (u8.trans (u9.trans u10)))
  have hze : Sl M10 5 encI (some (M6.n, 0)) 1 (.known 1) [zeI] := (Sl.whole (M := M7) (xs := [zeI]) (kd := .fixed) encI5 (by rw [g7]; rfl) (by simp) rfl).upto encI5 (by omega) (u8.trans (u9.trans u10))
  have h65 : Sl M10 2 encP (some (M7.n, 0)) 65 (.known 65) (List.replicate 65 (0, 0)) := by
    have := (Sl.whole (M := M8) (xs := List.replicate 65 ((0, 0) : Pr)) (kd := .fixed) (c := .known 65) encP2 (by rw [g8]; exact congrArg (fun l => some (AObj.mk l .fixed)) (repl_flat encP (0, 0) 65)) (by simp) rfl).upto encP2 (by omega) (u9.trans u10)
    rwa [List.length_replicate] at this
  have hbig : Sl M10 1 encS (some (M8.n, 0)) 1 (.known 1) [(some (M7.n, 0), 65, .known 65)] := (Sl.whole (M := M9) (xs := [((some (M7.n, 0), 65, .known 65) : SlV)]) encS1 g9 (by simp) rfl).upto encS1 (by omega) u10
  have all : ∀ j, j < 9 → At M10 M9.n j := by
    have c0 : ∀ x ∈ ([] : List Ins), x = exI ∨ x = zeI := by simp
    have c1 : ∀ x ∈ [exI], x = exI ∨ x = zeI := by simp
    have c2 : ∀ n, ∀ x ∈ List.replicate n exI, x = exI ∨ x = zeI := fun n x hx => .inl (List.eq_of_mem_replicate hx)
    have c3 : ∀ x ∈ [zeI], x = exI ∨ x = zeI := by simp
    have t0 : ∀ T ∈ ([] : List (List Pr)), ∀ p ∈ T, PrR p := by simp
    have tn : ∀ n, ∀ T ∈ List.replicate n ([] : List Pr), ∀ p ∈ T, PrR p := fun n T hT p hp => by rw [List.eq_of_mem_replicate hT] at hp; simp at hp
    have one : ∀ {x y : Int}, (0 ≤ x ∧ x < 100) → (0 ≤ y ∧ y < 100) → PrR (x, y) := prR
    intro j hj
    have hjs : j = 0 ∨ j = 1 ∨ j = 2 ∨ j = 3 ∨ j = 4 ∨ j = 5 ∨ j = 6 ∨ j = 7 ∨ j = 8 := by omega
    rcases hjs with rfl | rfl | rfl | rfl | rfl | rfl | rfl | rfl | rfl
    · exact At.of (ca := (none, 0, .known 0)) (ta := (none, 0, .known 0)) (code := []) (tabs := []) g10 rfl rfl (Md.nil _) (wfm_of c0 t0) ⟨by simp, by simp, by simp⟩
    · exact At.of (ca := (some (Ma.n, 0), 257, .known 257)) (ta := (none, 0, .known 0)) (code := List.replicate 257 exI) (tabs := []) g10 rfl rfl ⟨hmany, [], Sl.nil _ _ _ _ _, Tbs.nil _⟩ (wfm_of (c2 _) t0) ⟨by simp, by simp, by simp⟩
    · exact At.of (ca := (some (Ma.n, 0), 256, .known 257)) (ta := (none, 0, .known 0)) (code := List.replicate 256 exI) (tabs := []) g10 rfl rfl ⟨hsome, [], Sl.nil _ _ _ _ _, Tbs.nil _⟩ (wfm_of (c2 _) t0) ⟨by simp, by simp, by simp⟩
    · exact At.of (ca := (some (M.n, 0), 1, .known 1)) (ta := (some (M2.n, 0), 5, .known 5)) (code := [exI]) (tabs := List.replicate 5 []) g10 rfl rfl ⟨hex, _, h5, Tbs.nils _ _⟩ (wfm_of c1 (tn _)) ⟨by simp, by simp, fun T hT => by rw [List.eq_of_mem_replicate hT]; simp⟩
    · exact At.of (ca := (some (M.n, 0), 1, .known 1)) (ta := (some (M3.n, 0), 4, .known 4)) (code := [exI]) (tabs := List.replicate 4 []) g10 rfl rfl ⟨hex, _, h4, Tbs.nils _ _⟩ (wfm_of c1 (tn _)) ⟨by simp, by simp, fun T hT => by rw [List.eq_of_mem_replicate hT]; simp⟩
    · exact At.of (ca := (some (M.n, 0), 1, .known 1)) (ta := (some (M4.n, 0), 1, .known 1)) (code := [exI]) (tabs := [[(2, 1), (1, 1)]]) g10 rfl rfl ⟨hex, _, hd, (Tbs.nil _).snoc (w := (some (M1.n, 0), 2, .known 2)) hdown⟩ (wfm_of c1 (by
        intro T hT p hp
        simp only [List.mem_singleton] at hT
        subst hT
        simp only [List.mem_cons, List.not_mem_nil, or_false] at hp
        rcases hp with rfl | rfl
        · exact one (by omega) (by omega)
        · exact one (by omega) (by omega))) ⟨by simp, by simp, fun T hT => by simp only [List.mem_singleton] at hT; subst hT; simp⟩
    · exact At.of (ca := (some (M.n, 0), 1, .known 1)) (ta := (some (M5.n, 0), 2, .known 2)) (code := [exI]) (tabs := [[(1, 2)], []]) g10 rfl rfl ⟨hex, _, hun, ((Tbs.nil _).snoc (w := (some (M0.n, 0), 1, .known 1)) hup).snoc (w := (none, 0, .known 0)) (Sl.nil _ _ _ _ _)⟩ (wfm_of c1 (by
        intro T hT p hp
        simp only [List.mem_cons, List.not_mem_nil, or_false] at hT
        rcases hT with rfl | rfl
        · simp only [List.mem_singleton] at hp
          subst hp
          exact one (by omega) (by omega)
        · simp at hp)) ⟨by simp, by simp, fun T hT => by simp only [List.mem_cons, List.not_mem_nil, or_false] at hT; rcases hT with rfl | rfl <;> simp⟩
    · exact At.of (ca := (some (M6.n, 0), 1, .known 1)) (ta := (none, 0, .known 0)) (code := [zeI]) (tabs := []) g10 rfl rfl ⟨hze, [], Sl.nil _ _ _ _ _, Tbs.nil _⟩ (wfm_of c3 t0) ⟨by simp, by simp, by simp⟩
    · exact At.of (ca := (some (M.n, 0), 1, .known 1)) (ta := (some (M8.n, 0), 1, .known 1)) (code := [exI]) (tabs := [List.replicate 65 (0, 0)]) g10 rfl rfl ⟨hex, _, hbig, (Tbs.nil _).snoc (w := (some (M7.n, 0), 65, .known 65)) h65⟩ (wfm_of c1 (by
        intro T hT p hp
        simp only [List.mem_singleton] at hT
        subst hT
        rw [List.eq_of_mem_replicate hp]
        exact one (by omega) (by omega))) ⟨by simp, by simp, fun T hT => by simp only [List.mem_singleton] at hT; subst hT; simp⟩
  obtain ⟨M11, r11, u11⟩ := list_loop (x := M9.n) (a1 := some (M.n, 0)) (l1 := 1) (c1 := .known 1) (a4 := some (M0.n, 0)) (l4 := 1) (c4 := .known 1) 9 0 M10 (by omega) all
  have r11 : p7_2 C prog.meth (some (M.n, 0)) 1 (.known 1) (some (M0.n, 0)) 1 (.known 1) (some (M9.n, 0)) 9 (.known 9) 0 M10 = _ := r11
  have hG := p7_2_eq C prog.meth (some (M.n, 0)) 1 (.known 1) (some (M0.n, 0)) 1 (.known 1) (some (M9.n, 0)) 9 (.known 9) 9 M11
  have q9 : ¬ ((9 : Int) < 9) := by omega
  obtain ⟨M12, e12, g12, u12, n12⟩ := alloc_at M11 ⟨[.int .i64 0, .int .i64 1, .int .i64 4, .int .i64 5, .int .i64 6, .int .i64 7, .int .i64 8, .int .i64 16, .int .i64 17], .fixed⟩
  simp only [int?_int, rvs, Int.reduceBEq, Int.reduceBNe, Int.cast_ofNat_Int, q9, e12] at hG
  obtain ⟨M13, r13, u13⟩ := places_loop (x := M11.n) (a1 := some (M.n, 0)) (l1 := 1) (c1 := .known 1) (a4 := some (M0.n, 0)) (l4 := 1) (c4 := .known 1) 9 0 M12 (by omega) g12
  have r13 : p7_3 C prog.meth (some (M.n, 0)) 1 (.known 1) (some (M0.n, 0)) 1 (.known 1) (some (M11.n, 0)) 9 (.known 9) 0 M12 = _ := r13
  have u := u11.trans (u12.trans u13)
  obtain ⟨M14, r14⟩ := twice_C (x := M11.n) (hex.upto encI5 (by omega) u) (hup.upto encP2 (by omega) u)
  exact ⟨M14, c7 (hE.trans (f1.trans (hF.trans (r11.trans (hG.trans (r13.trans r14))))))⟩
theorem WireNames_law : ∀ avs M, M.Whole → okL M.n avs → ShowsArgs M [] avs → ∃ M', C 7 avs M = some (.bool true, M') := by
  intro avs M hM hok h
  simp only [ShowsArgs] at h
  subst h
  exact WireNames_C
end Go.Proofs.Ytmkncifbammfjaa.M
