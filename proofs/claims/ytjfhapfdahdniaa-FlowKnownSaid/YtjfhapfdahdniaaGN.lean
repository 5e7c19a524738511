/- FlowKnown. -/
import Derived.Test.YtjfhapfdahdniaaGL
set_option linter.unusedVariables false
set_option linter.unusedSimpArgs false
set_option linter.unnecessarySimpa false
set_option maxRecDepth 100000
namespace Go.Proofs.Ytjfhapfdahdniaa.M
open Go.Abs Go.RowKit

section
variable {M : Mem}
def codeAt (i : Nat) : List Ins := codeL.getD i []
def slAt (i : Nat) : SlV := slL.getD i (none, 0, .known 0)
theorem at_sl {i : Nat} (hi : i < 20) (hu : kM2.Upto M) : Sl M 5 encI (slAt i).1 (slAt i).2.1 (slAt i).2.2 (codeAt i) ∧ Cut M (slAt i).1 (slAt i).2.1 (slAt i).2.2 ∧ ∀ x ∈ codeAt i, InsR x := by
  have := List.all_eq_true.1 k2_sl i (List.mem_range.2 hi)
  obtain ⟨h1, h2, h3⟩ := slOk_sl this
  exact ⟨h1.upto encI5 (by omega) hu, h2.upto hu, h3⟩
theorem at_chk {i : Nat} (hi : i < 20) : (chkA (codeAt i)).1 = placeL.getD i 0 ∧ (chkA (codeAt i)).2 = errL.getD i 0 := by
  have := List.all_eq_true.1 k2_chk i (List.mem_range.2 hi)
  simp only [Bool.and_eq_true, beq_iff_eq] at this
  exact this
theorem at_neg (xs : List Ins) : (nextA xs (-1)).2 = if (chkA xs).2 ≠ 0 then (chkA xs).2 else 2 := by
  unfold nextA
  by_cases h : (chkA xs).2 ≠ 0
  · rw [if_pos h, if_pos h]
  · rw [if_neg h, if_neg h, if_pos (.inl (by omega))]
theorem cell_getD {vs : List AVal} {i n : Nat} (h : vs.length = n) (hi : i < n) (d : AVal) : vs[i]? = some (vs.getD i d) := by
  rw [List.getD_eq_getElem?_getD, List.getElem?_eq_getElem (by omega)]; rfl
theorem known_loop : ∀ (d i : Nat) (M : Mem), i + d = 20 → kM2.Upto M → ∃ M', kM2.Upto M' ∧ p7_2 C prog.meth 0 1 2 (some (21, 0)) 20 (.known 20) (some (22, 0)) 20 (.known 20) (some (23, 0)) 20 (.known 20) (i : Int) M = p7_2 C prog.meth 0 1 2 (some (21, 0)) 20 (.known 20) (some (22, 0)) 20 (.known 20) (some (23, 0)) 20 (.known 20) 20 M' := by
  intro d
  induction d with
  | zero =>
    intro i M hi hu
    obtain rfl : i = 20 := by omega
    exact ⟨M, hu, rfl⟩
  | succ d ih =>
    intro i M hi hu
    have hi20 : i < 20 := by omega
    have hF := p7_2_eq C prog.meth 0 1 2 (some (21, 0)) 20 (.known 20) (some (22, 0)) 20 (.known 20) (some (23, 0)) 20 (.known 20) (i : Int) M
    have q1 : ((i : Int) < ((20 : Nat) : Int)) := by omega
    have k1 : (0 : Int) ≤ (i : Int) := by omega
    have k2 : Nat.blt i 20 = true := Mem.blt_iff.2 hi20
    have w1 : IntKind.wrap .i64 ((i : Int) + 1) = ((i + 1 : Nat) : Int) := by rw [wrap_i64 (by omega) (by omega)]; rfl
    have s1 : slPtr (some (21, 0)) (.known 20) = some (21, 0) := rfl
    have s2 : slPtr (some (22, 0)) (.known 20) = some (22, 0) := rfl
    have s3 : slPtr (some (23, 0)) (.known 20) = some (23, 0) := rfl
    have rdS : ∀ M, kM2.Upto M → M.ldL 21 i = some (slAt i) := fun M hu => by
      rw [ldL_at (hu.get k2_co), List.getElem?_map]
      have : slL[i]? = some (slAt i) := by
        unfold slAt; rw [List.getD_eq_getElem?_getD, List.getElem?_eq_getElem (show i < slL.length from hi20)]; rfl
      rw [this]; rfl
    have rdP : ∀ M, kM2.Upto M → M.ldI .i64 22 i = some (placeL.getD i 0) := fun M hu => by
      rw [ldI_at (hu.get k2_pl), List.getElem?_map]
      have : placeL[i]? = some (placeL.getD i 0) := by
        rw [List.getD_eq_getElem?_getD, List.getElem?_eq_getElem (show i < placeL.length from hi20)]; rfl
      rw [this]; rfl
    have rdE : ∀ M, kM2.Upto M → M.ldI .i64 23 i = some (errL.getD i 0) := fun M hu => by
      rw [ldI_at (hu.get k2_er), List.getElem?_map]
      have : errL[i]? = some (errL.getD i 0) := by
        rw [List.getD_eq_getElem?_getD, List.getElem?_eq_getElem (show i < errL.length from hi20)]; rfl
      rw [this]; rfl
    obtain ⟨a1, a2, a3⟩ := at_sl hi20 hu
    obtain ⟨M1, c1, u1⟩ := FCheck_C a1 a2 a3
    obtain ⟨e1, e2⟩ := at_chk hi20
    rw [e1, e2] at c1
    have hu1 := hu.trans u1
    simp only [q1, k1, k2, decide_true, cond_true, Int.toNat_natCast, s1, s2, s3, Option.bind_some, Nat.zero_add, Nat.mul_one, rdS M hu, c1, AVal.tup?, List.head?_cons, List.tail_cons, int?_int, List.isEmpty_nil, rdP M1 hu1, rdE M1 hu1, bne_self_eq_false, cond_false] at hF
    have hG := p7_3_eq C prog.meth 0 1 2 (some (21, 0)) 20 (.known 20) (some (22, 0)) 20 (.known 20) (some (23, 0)) 20 (.known 20) (i : Int) (errL.getD i 0) M1
    obtain ⟨b1, b2, b3⟩ := at_sl hi20 hu1
    obtain ⟨M2, v, d1, u2, -, -⟩ := Loops_C b1 b2 b3
    have hu2 := hu1.trans u2
    obtain ⟨f1, f2, f3⟩ := at_sl hi20 hu2
    obtain ⟨M3, v', g1, u3, -, -⟩ := Next_C f1 f2 f3 (-1)
    have hu3 := hu2.trans u3
    obtain ⟨h1, h2, h3⟩ := at_sl hi20 hu3
    obtain ⟨M4, j1, u4⟩ := Steps_C h1 h2 h3
    have hu4 := hu3.trans u4
    rw [e2] at d1 j1
    rw [at_neg, e2] at g1
    simp only [k1, k2, decide_true, cond_true, Int.toNat_natCast, s1, Option.bind_some, Nat.zero_add, Nat.mul_one, rdS M1 hu1, d1, AVal.tup?, List.head?_cons, AVal.sl?, List.tail_cons, int?_int, List.isEmpty_nil, rdS M2 hu2, g1, rdS M3 hu3, j1, bne_self_eq_false, cond_false, w1] at hG
    obtain ⟨M', t1, t2⟩ := ih (i + 1) M4 (by omega) hu4
    refine ⟨M', t1, hF.trans (hG.trans ?_)⟩
    rw [← t2]
    by_cases hz : errL.getD i 0 = 0
    · rw [hz]; rfl
    · have z1 : (errL.getD i 0 != 0) = true := bne0 hz
      have z2 : (errL.getD i 0 == 0) = false := by simpa using hz
      rw [if_pos hz, z1, z2, bne_self_eq_false]; rfl
def deepL : List Ins := [(33, 0, 0, 0, 16), (33, 0, 0, 0, 16), (33, 0, 0, 0, 16), (1, 0, 0, 0, 1), (34, 0, 0, 0, 0), (34, 0, 0, 0, 0), (34, 0, 0, 0, 0), (36, 0, 0, 0, 0)]
def onceL : List Ins := [(33, 0, 0, 0, 1), (34, 0, 0, 0, 0), (36, 0, 0, 0, 0)]
def sameL' : List Ins := [(23, 0, 0, 0, 0), (36, 0, 0, 0, 0)]
theorem deep_chk : (chkA deepL).2 = 0 := by decide
theorem deep_steps : stepsA deepL = 8738 := by decide
theorem once_nx : nextA onceL 1 = ([2], 0) := by decide
theorem same_nx : nextA sameL' 0 = ([1], 0) := by decide
theorem three6 : nextA threeL 6 = ([], 2) := by decide
theorem three5 : nextA threeL 5 = ([], 0) := by decide
/-- A struct that a call has answered is taken apart. -/
theorem agg5 {β : Type} {a : Nat} {b c d e : Int} {N : Mem} {K : Int → Int → Int → Int → Int → Option β} : (Option.bind (some (AVal.agg (encI (a, b, c, d, e)), N)) fun r => Option.bind r.1.agg? fun l => Option.bind l.head? fun v => Option.bind (v.int? .u8) fun x1 => Option.bind l.tail.head? fun v => Option.bind (v.int? .u8) fun x2 => Option.bind l.tail.tail.head? fun v => Option.bind (v.int? .u8) fun x3 =>
    Option.bind l.tail.tail.tail.head? fun v => Option.bind (v.int? .i16) fun x4 => Option.bind l.tail.tail.tail.tail.head? fun v => Option.bind (v.int? .i32) fun x5 => cond l.tail.tail.tail.tail.tail.isEmpty (K x1 x2 x3 x4 x5) none) = K (a : Int) b c d e := rfl
theorem FlowKnown_C : ∃ M', C 7 [] Mem.empty = some (.bool true, M') := by
  obtain ⟨M, hu, hl⟩ := known_loop 20 0 kM2 (by omega) (Mem.Upto.refl _)
  have h0 := known_start.trans hl
  have hE := p7_2_eq C prog.meth 0 1 2 (some (21, 0)) 20 (.known 20) (some (22, 0)) 20 (.known 20) (some (23, 0)) 20 (.known 20) 20 M
  have q1 : ¬ ((20 : Int) < ((20 : Nat) : Int)) := by decide
  rw [decide_eq_false q1, cond_false] at hE
  obtain ⟨b0, b1, b2⟩ := k2_b
  have rd : ∀ M, kM2.Upto M → (M.ldI .u8 0 0 = some 34 ∧ M.ldI .u8 0 1 = some 0 ∧ M.ldI .u8 0 2 = some 0 ∧ M.ldI .i16 0 3 = some 0 ∧ M.ldI .i32 0 4 = some 0) ∧ (M.ldI .u8 1 0 = some 36 ∧ M.ldI .u8 1 1 = some 0 ∧ M.ldI .u8 1 2 = some 0 ∧ M.ldI .i16 1 3 = some 0 ∧ M.ldI .i32 1 4 = some 0) ∧ (M.ldI .u8 2 0 = some 1 ∧ M.ldI .u8 2 1 = some 0 ∧ M.ldI .u8 2 2 = some 0 ∧ M.ldI .i16 2 3 = some 0 ∧ M.ldI .i32 2 4 = some 1) := fun M hu =>
    ⟨ibox_rd (hu.get b0), ibox_rd (hu.get b1), ibox_rd (hu.get b2)⟩
  obtain ⟨_, r16, -⟩ := rep_C 16 Mem.empty
  obtain ⟨_, r1, -⟩ := rep_C 1 Mem.empty
  obtain ⟨⟨x0, x1, x2, x3, x4⟩, ⟨y0, y1, y2, y3, y4⟩, ⟨z0, z1, z2, z3, z4⟩⟩ := rd M hu
  obtain ⟨Ma, ea', ga, ua, na⟩ := alloc_at M ⟨deepL.flatMap encI, .fixed⟩
  have ea : M.alloc ⟨[.int .u8 33, .int .u8 0, .int .u8 0, .int .i16 0, .int .i32 16, .int .u8 33, .int .u8 0, .int .u8 0, .int .i16 0, .int .i32 16, .int .u8 33, .int .u8 0, .int .u8 0, .int .i16 0, .int .i32 16, .int .u8 1, .int .u8 0, .int .u8 0, .int .i16 0, .int .i32 1, .int .u8 34, .int .u8 0, .int .u8 0, .int .i16 0, .int .i32 0, .int .u8 34, .int .u8 0, .int .u8 0, .int .i16 0, .int .i32 0, .int .u8 34, .int .u8 0, .int .u8 0, .int .i16 0, .int .i32 0, .int .u8 36, .int .u8 0, .int .u8 0, .int .i16 0, .int .i32 0], .fixed⟩ = Ma := ea'
  obtain ⟨Mb, c1, ub⟩ := Steps_C (a := some (M.n, 0)) (l := 8) (c := .known 8) (Sl.whole (xs := deepL) (c := .known 8) encI5 ga (by simp) rfl) (.inl (.inl ⟨8, rfl, Nat.le_refl _⟩)) (allR rfl)
  rw [deep_chk, if_pos rfl, deep_steps] at c1
  have hub := (hu.trans ua).trans ub
  obtain ⟨⟨x0', x1', x2', x3', x4'⟩, ⟨y0', y1', y2', y3', y4'⟩, -⟩ := rd Mb hub
  obtain ⟨Mc, ec', gc, uc, nc⟩ := alloc_at Mb ⟨onceL.flatMap encI, .fixed⟩
  have ec : Mb.alloc ⟨[.int .u8 33, .int .u8 0, .int .u8 0, .int .i16 0, .int .i32 1, .int .u8 34, .int .u8 0, .int .u8 0, .int .i16 0, .int .i32 0, .int .u8 36, .int .u8 0, .int .u8 0, .int .i16 0, .int .i32 0], .fixed⟩ = Mc := ec'
  obtain ⟨Md, v1, d1, ud, dv, -⟩ := Next_C (a := some (Mb.n, 0)) (l := 3) (c := .known 3) (Sl.whole (xs := onceL) (c := .known 3) encI5 gc (by simp) rfl) (.inl (.inl ⟨3, rfl, Nat.le_refl _⟩)) (allR rfl) 1
  rw [once_nx] at d1 dv
  have hud := (hub.trans uc).trans ud
  obtain ⟨-, ⟨y0'', y1'', y2'', y3'', y4''⟩, -⟩ := rd Md hud
  obtain ⟨Me, ee', ge, ue, ne⟩ := alloc_at Md ⟨sameL'.flatMap encI, .fixed⟩
  have ee : Md.alloc ⟨[.int .u8 23, .int .u8 0, .int .u8 0, .int .i16 0, .int .i32 0, .int .u8 36, .int .u8 0, .int .u8 0, .int .i16 0, .int .i32 0], .fixed⟩ = Me := ee'
  obtain ⟨Mf, v2, f1, uf, fv, -⟩ := Next_C (a := some (Md.n, 0)) (l := 2) (c := .known 2) (Sl.whole (xs := sameL') (c := .known 2) encI5 ge (by simp) rfl) (.inl (.inl ⟨2, rfl, Nat.le_refl _⟩)) (allR rfl) 0
  rw [same_nx] at f1 fv
  obtain ⟨Mg, o1, g1, ug, gs⟩ := three_C Mf
  obtain ⟨Mh, v3, h1, uh, hv, -⟩ := Next_C gs (threeCut _ _) threeR 6
  rw [three6] at h1 hv
  obtain ⟨Mi, o2, i1, ui, is'⟩ := three_C Mh
  obtain ⟨Mj, v4, j1, uj, jv, -⟩ := Next_C is' (threeCut _ _) threeR 5
  rw [three5] at j1 jv
  have jl : v4.2.1 = 0 := by have := ints_length jv; simpa using this.symm
  obtain ⟨Mw, cw⟩ := works14_C
  obtain ⟨Mk, ek, gk, uk, nk⟩ := alloc_at Mj ⟨[.int .i64 2], .fixed⟩
  have k1 : Mk.ints .i64 (some (Mj.n, 0)) 1 (.known 1) = some [2] := ints_whole (xs := [2]) (c := .known 1) (kd := .fixed) gk (by simp) rfl
  have k2 := EqInts_C (ints_upto dv ((((((ue.trans uf).trans ug).trans uh).trans ui).trans uj).trans uk)) k1 (by have := ints_length dv; simp at this; omega)
  obtain ⟨Ml, el, gl, ul, nl⟩ := alloc_at Mk ⟨[.int .i64 1], .fixed⟩
  have l1 : Ml.ints .i64 (some (Mk.n, 0)) 1 (.known 1) = some [1] := ints_whole (xs := [1]) (c := .known 1) (kd := .fixed) gl (by simp) rfl
  have l2 := EqInts_C (ints_upto fv (((((ug.trans uh).trans ui).trans uj).trans uk).trans ul)) l1 (by have := ints_length fv; simp at this; omega)
  simp only [Int.cast_ofNat_Int] at c1
  rw [r16] at hE
  replace hE := hE.trans agg5
  replace hE := hE.trans agg5
  replace hE := hE.trans agg5
  simp only [Int.cast_ofNat_Int, x0, x1, x2, x3, x4, y0, y1, y2, y3, y4, z0, z1, z2, z3, z4, Option.bind_some, ea] at hE
  rw [c1, Option.bind_some] at hE
  simp only [Option.bind_some, List.getElem?_cons_zero, List.getElem?_cons_succ, int?_int, AVal.bool?, AVal.ptr?, AVal.sl?, AVal.tup?, AVal.agg?, AVal.ifc?, AVal.fn?, AVal.str?, List.head?_cons, List.tail_cons, List.isEmpty_nil, cond_true, cond_false, Option.isNone_some, Option.isNone_none, Bool.not_true, Bool.not_false, decide_true, decide_false, beq_self_eq_true, bne_self_eq_false, Int.reduceBEq, Int.reduceBNe, Int.cast_ofNat_Int] at hE
  rw [r1] at hE
  replace hE := hE.trans agg5
  simp only [Int.cast_ofNat_Int, x0', x1', x2', x3', x4', y0', y1', y2', y3', y4', Option.bind_some, ec] at hE
  rw [d1, Option.bind_some] at hE
  simp only [Option.bind_some, List.getElem?_cons_zero, List.getElem?_cons_succ, int?_int, AVal.bool?, AVal.ptr?, AVal.sl?, AVal.tup?, AVal.agg?, AVal.ifc?, AVal.fn?, AVal.str?, List.head?_cons, List.tail_cons, List.isEmpty_nil, cond_true, cond_false, Option.isNone_some, Option.isNone_none, Bool.not_true, Bool.not_false, decide_true, decide_false, beq_self_eq_true, bne_self_eq_false, Int.reduceBEq, Int.reduceBNe, Int.cast_ofNat_Int] at hE
  simp only [y0'', y1'', y2'', y3'', y4'', Option.bind_some, ee] at hE
  rw [f1, Option.bind_some] at hE
  simp only [Option.bind_some, List.getElem?_cons_zero, List.getElem?_cons_succ, int?_int, AVal.bool?, AVal.ptr?, AVal.sl?, AVal.tup?, AVal.agg?, AVal.ifc?, AVal.fn?, AVal.str?, List.head?_cons, List.tail_cons, List.isEmpty_nil, cond_true, cond_false, Option.isNone_some, Option.isNone_none, Bool.not_true, Bool.not_false, decide_true, decide_false, beq_self_eq_true, bne_self_eq_false, Int.reduceBEq, Int.reduceBNe, Int.cast_ofNat_Int] at hE
  rw [g1, Option.bind_some] at hE
  simp only [Option.bind_some, List.getElem?_cons_zero, List.getElem?_cons_succ, int?_int, AVal.bool?, AVal.ptr?, AVal.sl?, AVal.tup?, AVal.agg?, AVal.ifc?, AVal.fn?, AVal.str?, List.head?_cons, List.tail_cons, List.isEmpty_nil, cond_true, cond_false, Option.isNone_some, Option.isNone_none, Bool.not_true, Bool.not_false, decide_true, decide_false, beq_self_eq_true, bne_self_eq_false, Int.reduceBEq, Int.reduceBNe, Int.cast_ofNat_Int] at hE
  rw [h1, Option.bind_some] at hE
  simp only [Option.bind_some, List.getElem?_cons_zero, List.getElem?_cons_succ, int?_int, AVal.bool?, AVal.ptr?, AVal.sl?, AVal.tup?, AVal.agg?, AVal.ifc?, AVal.fn?, AVal.str?, List.head?_cons, List.tail_cons, List.isEmpty_nil, cond_true, cond_false, Option.isNone_some, Option.isNone_none, Bool.not_true, Bool.not_false, decide_true, decide_false, beq_self_eq_true, bne_self_eq_false, Int.reduceBEq, Int.reduceBNe, Int.cast_ofNat_Int] at hE
  rw [i1, Option.bind_some] at hE
  simp only [Option.bind_some, List.getElem?_cons_zero, List.getElem?_cons_succ, int?_int, AVal.bool?, AVal.ptr?, AVal.sl?, AVal.tup?, AVal.agg?, AVal.ifc?, AVal.fn?, AVal.str?, List.head?_cons, List.tail_cons, List.isEmpty_nil, cond_true, cond_false, Option.isNone_some, Option.isNone_none, Bool.not_true, Bool.not_false, decide_true, decide_false, beq_self_eq_true, bne_self_eq_false, Int.reduceBEq, Int.reduceBNe, Int.cast_ofNat_Int] at hE
  rw [j1, Option.bind_some] at hE
  simp only [Option.bind_some, List.getElem?_cons_zero, List.getElem?_cons_succ, int?_int, AVal.bool?, AVal.ptr?, AVal.sl?, AVal.tup?, AVal.agg?, AVal.ifc?, AVal.fn?, AVal.str?, List.head?_cons, List.tail_cons, List.isEmpty_nil, cond_true, cond_false, Option.isNone_some, Option.isNone_none, Bool.not_true, Bool.not_false, decide_true, decide_false, beq_self_eq_true, bne_self_eq_false, Int.reduceBEq, Int.reduceBNe, Int.cast_ofNat_Int] at hE
  rw [cw, Option.bind_some] at hE
  simp only [Option.bind_some, List.getElem?_cons_zero, List.getElem?_cons_succ, int?_int, AVal.bool?, AVal.ptr?, AVal.sl?, AVal.tup?, AVal.agg?, AVal.ifc?, AVal.fn?, AVal.str?, List.head?_cons, List.tail_cons, List.isEmpty_nil, cond_true, cond_false, Option.isNone_some, Option.isNone_none, Bool.not_true, Bool.not_false, decide_true, decide_false, beq_self_eq_true, bne_self_eq_false, Int.reduceBEq, Int.reduceBNe, Int.cast_ofNat_Int] at hE
  simp only [ek, k2, Option.bind_some, List.getElem?_cons_zero, List.getElem?_cons_succ, int?_int, AVal.bool?, AVal.ptr?, AVal.sl?, AVal.tup?, AVal.agg?, AVal.ifc?, AVal.fn?, AVal.str?, List.head?_cons, List.tail_cons, List.isEmpty_nil, cond_true, cond_false, Option.isNone_some, Option.isNone_none, Bool.not_true, Bool.not_false, decide_true, decide_false, beq_self_eq_true, bne_self_eq_false, Int.reduceBEq, Int.reduceBNe, Int.cast_ofNat_Int] at hE
  simp only [el, l2, jl, Option.bind_some, List.getElem?_cons_zero, List.getElem?_cons_succ, int?_int, AVal.bool?, AVal.ptr?, AVal.sl?, AVal.tup?, AVal.agg?, AVal.ifc?, AVal.fn?, AVal.str?, List.head?_cons, List.tail_cons, List.isEmpty_nil, cond_true, cond_false, Option.isNone_some, Option.isNone_none, Bool.not_true, Bool.not_false, decide_true, decide_false, beq_self_eq_true, bne_self_eq_false, Int.reduceBEq, Int.reduceBNe, Int.cast_ofNat_Int] at hE
  exact ⟨_, c7 (h0.trans hE)⟩
/-- .. as a run. -/
theorem FlowKnown_runs : ∃ (n : Nat) (M' : Mem), callN true prog n 7 [] Mem.empty = some (.bool true, M') := by
  obtain ⟨M', h⟩ := FlowKnown_C
  obtain ⟨n, hn⟩ := (whole_iff prog CallF.empty).1 h
  exact ⟨n, M', by rw [callN_X]; exact hn⟩
end
end Go.Proofs.Ytjfhapfdahdniaa.M
