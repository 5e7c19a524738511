/- ForeignShown. -/
import Derived.Test.YtjcakemgghfflaaFX
import Derived.Test.YtjcakemgghfflaaXFc
set_option linter.unusedVariables false
set_option linter.unusedSimpArgs false
set_option linter.unnecessarySimpa false
set_option maxRecDepth 100000
namespace Go.Proofs.Ytjcakemgghfflaa.M
open Go.Abs Go.RowKit

theorem works23_C : ∃ M', C 9 [] Mem.empty = some (.bool true, M') := whole_says (n := 2000) (by kernel_rfl)
section
variable {M0 M M' : Mem} {a1 : Option (Nat × Nat)} {l1 : Nat} {c1 : Cap} {L : List Deed}
theorem Deeds.upto (hd : Deeds M0 a1 l1 c1 L) (hu : M0.Upto M) : Deeds M a1 l1 c1 L := ⟨hd.len, fun i hi => by
  obtain ⟨p, v, h1, h2⟩ := hd.at_ i hi
  exact ⟨p, v, h1, fun M3 h3 => h2 M3 (hu.trans h3)⟩⟩
/-- The deeds are copied. -/
theorem shown_build (hd : Deeds M0 a1 l1 c1 L) (hok : ∀ d ∈ L, DeedOk d) (hl : L.length < 2 ^ 40) {w0 w1 : Option (Nat × Nat)} {wl il : Nat} {wc ic : Cap} {arg : Int} {ia : Option (Nat × Nat)} {N0 : Nat} (hN : M0.n ≤ N0) :
    ∀ (d i : Nat) (M : Mem) (a : Option (Nat × Nat)) (l : Nat) (c : Cap) (rows : List RwD), i + d = L.length → M0.Upto M → N0 ≤ M.n → OD N0 M.n M a l c rows (L.take i) →
    ∃ M' a' l' c' rows', p4_1 C prog.meth w0 wl wc arg a1 l1 c1 ia il ic a l c i M = p4_1 C prog.meth w0 wl wc arg a1 l1 c1 ia il ic a' l' c' (L.length : Int) M' ∧ Mem.But (fun y => N0 ≤ y) M M' ∧ OD N0 M'.n M' a' l' c' rows' L := by
  intro d
  induction d with
  | zero =>
    intro i M a l c rows hi hu hn h
    obtain rfl : i = L.length := by omega
    rw [List.take_of_length_le (by omega)] at h
    exact ⟨M, a, l, c, rows, rfl, Mem.But.refl _ _, h⟩
  | succ d ih =>
    intro i M a l c rows hi hu hn h
    have hE := p4_1_eq C prog.meth w0 wl wc arg a1 l1 c1 ia il ic a l c i M
    have hlen := hd.len
    have hiL : i < L.length := by omega
    have q1 : ((i : Int) < (l1 : Int)) := by omega
    have c0 : (0 : Int) ≤ (i : Int) := by omega
    have c2 : Nat.blt i l1 = true := Mem.blt_iff.2 (by omega)
    have hw : IntKind.wrap .i64 ((i : Int) + 1) = ((i + 1 : Nat) : Int) := by rw [wrap_i64 (by omega) (by omega)]; rfl
    have hk := hok _ (List.getElem_mem hiL)
    obtain ⟨p, dv, hp, hld⟩ := hd.at_ i hiL
    obtain ⟨l0, l1', l2, l3'⟩ := hld M hu
    have l3 := l3'.ints
    have hbl := ints_length l3
    have hk2 := hk.2.2.1
    obtain ⟨M3, w, k1, k2, k3, k4, k5⟩ := CopyBytes_F l3 (by omega)
    obtain ⟨l0', l1'', _⟩ := hld M3 (hu.trans k2)
    have hlt := h.length
    rw [List.length_take, Nat.min_eq_left (by omega)] at hlt
    have n3 := k2.1
    obtain ⟨M5, r1, r2, r3, r4⟩ := (h.upto k2).push (k := L[i].1) (at_ := L[i].2.1) ⟨k3, k5⟩ (fun o ho => ⟨by have := k4 o ho; omega, k3.lt o ho, fun hm => by have := (h.lt o hm).2; have := k4 o ho; omega⟩) (by omega) (by omega)
    have et : L.take i ++ [(L[i].1, L[i].2.1, L[i].2.2)] = L.take (i + 1) := by rw [List.take_succ_eq_append_getElem hiL]
    rw [et] at r2
    have b5 : Mem.But (fun y => N0 ≤ y) M M5 := (k2.but _).trans r4 (fun y _ hm => (h.lt y hm).1)
    have hM0 : M0.Upto M5 := ⟨by have := hu.1; omega, fun y hy => by
      rw [b5.2 y (by have := hu.1; omega) (by omega), hu.2 y hy]⟩
    have st0 := still1 (ldI_ld.1 l0')
    have st1 := still1 (ldI_ld.1 l1'')
    have l2' : M.ldL p.1 (p.2 + i * 3 + 2) = some dv := l2
    simp only [Option.bind_some, List.getElem?_cons_zero, List.getElem?_cons_succ, int?_int, AVal.bool?, AVal.ptr?, AVal.sl?, AVal.tup?, AVal.agg?, AVal.ifc?, AVal.fn?, AVal.str?, List.head?_cons, List.tail_cons, List.isEmpty_nil, cond_true, cond_false, Option.isNone_some, Option.isNone_none, Bool.not_true, Bool.not_false, decide_true, decide_false, beq_self_eq_true, bne_self_eq_false, Int.reduceBEq, Int.reduceBNe, Int.cast_ofNat_Int, q1, c0, c2, Int.toNat_natCast, hp, Nat.add_zero, l0, l1', l2'] at hE
    rw [k1, Option.bind_some] at hE
    simp only [Option.bind_some, List.getElem?_cons_zero, List.getElem?_cons_succ, int?_int, AVal.bool?, AVal.ptr?, AVal.sl?, AVal.tup?, AVal.agg?, AVal.ifc?, AVal.fn?, AVal.str?, List.head?_cons, List.tail_cons, List.isEmpty_nil, cond_true, cond_false, Option.isNone_some, Option.isNone_none, Bool.not_true, Bool.not_false, decide_true, decide_false, beq_self_eq_true, bne_self_eq_false, Int.reduceBEq, Int.reduceBNe, Int.cast_ofNat_Int] at hE
    rw [r1] at hE
    simp only [st0, st1, cond_true, hw] at hE
    obtain ⟨M', a', l', c', rows', t1, t2, t3⟩ := ih (i + 1) M5 _ _ _ _ (by omega) hM0 (by omega) r2
    exact ⟨M', a', l', c', rows', hE.trans t1, b5.trans t2 (fun y _ h => h), t3⟩
/-- All bytes of the answer are turned. -/
theorem shown_turn {w0 : Option (Nat × Nat)} {wl : Nat} {wc : Cap} {ia : Option (Nat × Nat)} {il : Nat} {ic : Cap} {da : Option (Nat × Nat)} {dl : Nat} {dc : Cap} {v : SlV} {o : Nat} (hv : 0 < v.2.1 → v.1 = some (o, 0)) (h48 : v.2.1 < 2 ^ 62) :
    ∀ (d i : Nat) (M : Mem) (zs : List Int), i + d = v.2.1 → zs.length = v.2.1 → (0 < v.2.1 → M.get o = some ⟨zs.map (.int .u8), .grow 1⟩) →
    ∃ M', p4_3 C prog.meth w0 wl wc a1 l1 c1 ia il ic da dl dc v.1 v.2.1 (.known v.2.1) i M = p4_4 C prog.meth w0 wl wc a1 l1 c1 ia il ic da dl dc 0 M' ∧ M'.n = M.n ∧ Mem.But (fun y => 0 < v.2.1 ∧ y = o) M M' := by
  intro d
  induction d with
  | zero =>
    intro i M zs hi hz hg
    have hE := p4_3_eq C prog.meth w0 wl wc a1 l1 c1 ia il ic da dl dc v.1 v.2.1 (.known v.2.1) i M
    have q1 : ¬ ((i : Int) < (v.2.1 : Int)) := by omega
    simp only [q1, decide_false, cond_false] at hE
    exact ⟨M, hE, rfl, Mem.But.refl _ _⟩
  | succ d ih =>
    intro i M zs hi hz hg
    have hE := p4_3_eq C prog.meth w0 wl wc a1 l1 c1 ia il ic da dl dc v.1 v.2.1 (.known v.2.1) i M
    have q1 : ((i : Int) < (v.2.1 : Int)) := by omega
    have c0 : (0 : Int) ≤ (i : Int) := by omega
    have c2 : Nat.blt i v.2.1 = true := Mem.blt_iff.2 (by omega)
    have hw : IntKind.wrap .i64 ((i : Int) + 1) = ((i + 1 : Nat) : Int) := by rw [wrap_i64 (by omega) (by omega)]; rfl
    have hsp : slPtr v.1 (.known v.2.1) = some (o, 0) := hv (by omega)
    have g := hg (by omega)
    have e2 : M.ldI .u8 o i = some (zs[i]'(by omega)) := ldI_ld.2 (by rw [ld_grow g]; simp [List.getElem?_eq_getElem (show i < zs.length by omega)])
    have s1 := st_grow (i := i) (vs := [.int .u8 (IntKind.wrap .u8 ((BitVec.ofInt (IntKind.bits .u8) (zs[i]'(by omega)) ^^^ BitVec.ofInt (IntKind.bits .u8) 255).toNat))]) g (by simp; omega)
    rw [overL_one, ← List.map_set] at s1
    have g2 := get_put_self (x := ⟨(zs.set i (IntKind.wrap .u8 ((BitVec.ofInt (IntKind.bits .u8) (zs[i]'(by omega)) ^^^ BitVec.ofInt (IntKind.bits .u8) 255).toNat))).map (.int .u8), .grow 1⟩) (Mem.get_lt g)
    have b2 := Mem.But.put M o ⟨(zs.set i (IntKind.wrap .u8 ((BitVec.ofInt (IntKind.bits .u8) (zs[i]'(by omega)) ^^^ BitVec.ofInt (IntKind.bits .u8) 255).toNat))).map (.int .u8), .grow 1⟩
    simp only [Option.bind_some, List.getElem?_cons_zero, List.getElem?_cons_succ, int?_int, AVal.bool?, AVal.ptr?, AVal.sl?, AVal.tup?, AVal.agg?, AVal.ifc?, AVal.fn?, AVal.str?, List.head?_cons, List.tail_cons, List.isEmpty_nil, cond_true, cond_false, Option.isNone_some, Option.isNone_none, Bool.not_true, Bool.not_false, decide_true, decide_false, beq_self_eq_true, bne_self_eq_false, Int.reduceBEq, Int.reduceBNe, Int.cast_ofNat_Int, q1, c0, c2, Int.toNat_natCast, hsp, Nat.zero_add, Nat.mul_one, e2, s1, hw] at hE
    obtain ⟨M', t1, t2, t3⟩ := ih (i + 1) _ _ (by omega) (by rw [List.length_set]; exact hz) (fun _ => g2)
    exact ⟨M', hE.trans t1, t2, (b2.mono (fun y hy => ⟨by omega, hy⟩)).trans t3 (fun y _ h => h)⟩
/-- What was handed in is as it was. -/
theorem shown_kept (hd : Deeds M0 a1 l1 c1 L) (hl : L.length < 2 ^ 40) (hok : ∀ d ∈ L, DeedOk d) {w0 : Option (Nat × Nat)} {wl : Nat} {wc : Cap} {ia : Option (Nat × Nat)} {il : Nat} {ic : Cap} {da : Option (Nat × Nat)} {dl : Nat} {dc : Cap} {xs : List Int} (hu : M0.Upto M) (hD : DeedB PSv M M.n da dl dc L) (hx : M.ints .u8 w0 wl wc = some xs) (hi : M.ints .u8 ia il ic = some xs) (hwl : wl < 2 ^ 62) :
    ∀ (d i : Nat), i + d = L.length → ∃ M', p4_4 C prog.meth w0 wl wc a1 l1 c1 ia il ic da dl dc i M = some (.bool true, M') := by
  intro d
  induction d with
  | zero =>
    intro i hi'
    have hE := p4_4_eq C prog.meth w0 wl wc a1 l1 c1 ia il ic da dl dc i M
    have hlen := hd.len
    have q1 : ¬ ((i : Int) < (l1 : Int)) := by omega
    obtain ⟨Mw, cw⟩ := works23_C
    have hil := ints_length hi
    have hwl' := ints_length hx
    simp only [Option.bind_some, List.getElem?_cons_zero, List.getElem?_cons_succ, int?_int, AVal.bool?, AVal.ptr?, AVal.sl?, AVal.tup?, AVal.agg?, AVal.ifc?, AVal.fn?, AVal.str?, List.head?_cons, List.tail_cons, List.isEmpty_nil, cond_true, cond_false, Option.isNone_some, Option.isNone_none, Bool.not_true, Bool.not_false, decide_true, decide_false, beq_self_eq_true, bne_self_eq_false, Int.reduceBEq, Int.reduceBNe, Int.cast_ofNat_Int, q1, EqBytes_C hi hx (by omega), decide_true] at hE
    rw [cw, Option.bind_some] at hE
    exact ⟨M, hE⟩
  | succ d ih =>
    intro i hi'
    have hE := p4_4_eq C prog.meth w0 wl wc a1 l1 c1 ia il ic da dl dc i M
    have hlen := hd.len
    have hlen2 := hD.len
    have hiL : i < L.length := by omega
    have q1 : ((i : Int) < (l1 : Int)) := by omega
    have c0 : (0 : Int) ≤ (i : Int) := by omega
    have c2 : Nat.blt i l1 = true := Mem.blt_iff.2 (by omega)
    have c3 : Nat.blt i dl = true := Mem.blt_iff.2 (by omega)
    have hw : IntKind.wrap .i64 ((i : Int) + 1) = ((i + 1 : Nat) : Int) := by rw [wrap_i64 (by omega) (by omega)]; rfl
    obtain ⟨p, dv, hp, hld⟩ := hd.at_ i hiL
    obtain ⟨l0, l1', l2, l3'⟩ := hld M hu
    have l3 := l3'.ints
    obtain ⟨p', dv', hp', hld'⟩ := hD.at_ i hiL
    obtain ⟨k0, k1, k2, k3⟩ := hld' M (Mem.But.refl _ _)
    have l2' : M.ldL p.1 (p.2 + i * 3 + 2) = some dv := l2
    have k2' : M.ldL p'.1 (p'.2 + i * 3 + 2) = some dv' := k2
    have hk2 := (hok _ (List.getElem_mem hiL)).2.2.1
    have hbl := ints_length l3
    have hbl' := ints_length (PS.ints k3)
    simp only [Option.bind_some, List.getElem?_cons_zero, List.getElem?_cons_succ, int?_int, AVal.bool?, AVal.ptr?, AVal.sl?, AVal.tup?, AVal.agg?, AVal.ifc?, AVal.fn?, AVal.str?, List.head?_cons, List.tail_cons, List.isEmpty_nil, cond_true, cond_false, Option.isNone_some, Option.isNone_none, Bool.not_true, Bool.not_false, decide_true, decide_false, beq_self_eq_true, bne_self_eq_false, Int.reduceBEq, Int.reduceBNe, Int.cast_ofNat_Int, q1, c0, c2, c3, Int.toNat_natCast, hp, hp', Nat.add_zero, l2', k2'] at hE
    rw [EqBytes_C (PS.ints k3) l3 (by omega), Option.bind_some] at hE
    simp only [Option.bind_some, List.getElem?_cons_zero, List.getElem?_cons_succ, int?_int, AVal.bool?, AVal.ptr?, AVal.sl?, AVal.tup?, AVal.agg?, AVal.ifc?, AVal.fn?, AVal.str?, List.head?_cons, List.tail_cons, List.isEmpty_nil, cond_true, cond_false, Option.isNone_some, Option.isNone_none, Bool.not_true, Bool.not_false, decide_true, decide_false, beq_self_eq_true, bne_self_eq_false, Int.reduceBEq, Int.reduceBNe, Int.cast_ofNat_Int, decide_true, l0, l1', k0, k1, bne_self_eq_false, hw] at hE
    obtain ⟨M', t⟩ := ih (i + 1) (by omega)
    exact ⟨M', hE.trans t⟩
end
theorem ForeignShown_C {M : Mem} {a1 : Option (Nat × Nat)} {l1 : Nat} {c1 : Cap} {L : List Deed} {ba : Option (Nat × Nat)} {bl : Nat} {bc : Cap} {xs : List Int} {arg : Int} (hd : Deeds M a1 l1 c1 L) (hok : ∀ d ∈ L, DeedOk d) (hl : L.length ≤ 1048576) (hb : ∀ d ∈ L, d.2.2.length ≤ 1048576) (hx : M.ints .u8 ba bl bc = some xs) (hbl : bl ≤ 1048576) :
    ∃ M', C 4 [.sl ba bl bc, .int .u64 arg, .sl a1 l1 c1] M = some (.bool true, M') := by
  have hE := p4_0_eq C prog.meth ba bl bc arg a1 l1 c1 M
  obtain ⟨M1, v, k1, u1, k3, k4, k5⟩ := CopyBytes_F hx (by omega)
  have hxl := ints_length hx
  have hvl := k3.1
  have hlen := hd.len
  simp only [k1, Option.bind_some, List.getElem?_cons_zero, List.getElem?_cons_succ, int?_int, AVal.bool?, AVal.ptr?, AVal.sl?, AVal.tup?, AVal.agg?, AVal.ifc?, AVal.fn?, AVal.str?, List.head?_cons, List.tail_cons, List.isEmpty_nil, cond_true, cond_false, Option.isNone_some, Option.isNone_none, Bool.not_true, Bool.not_false, decide_true, decide_false, beq_self_eq_true, bne_self_eq_false, Int.reduceBEq, Int.reduceBNe, Int.cast_ofNat_Int] at hE
  obtain ⟨M2, a, l, c, rows, q1, q2, q3⟩ := shown_build (w0 := ba) (wl := bl) (wc := bc) (arg := arg) (ia := v.1) (il := v.2.1) (ic := v.2.2) (w1 := none) hd hok (by omega) u1.1 L.length 0 M1 none 0 (.known 0) [] (by omega) u1 (Nat.le_refl _) (OD.nil _ _)
  have u2 : M1.Upto M2 := ⟨q2.1, fun y hy => q2.2 y hy (by omega)⟩
  have hE1 := p4_1_eq C prog.meth ba bl bc arg a1 l1 c1 v.1 v.2.1 v.2.2 a l c (L.length : Int) M2
  have n1 : ¬ ((L.length : Int) < (l1 : Int)) := by omega
  obtain ⟨M3, w, sC, u3, o3, f3⟩ := Shown_C (M := M2) (arg := arg) (fun Mx o hu ho => (q3.deeds (.inr ho)).up (hu.but _)) hok hl hb (k3.upto u2).ints (by omega)
  obtain ⟨M4, z, dC, u4, o4, f4⟩ := Deeds_C (arg := arg) (hd.upto (u1.trans (u2.trans u3))) hok hl hb (ints_upto hx (u1.trans (u2.trans u3))) (by omega)
  have hE18 := p18_0_eq C prog.meth ba bl bc arg a1 l1 c1 M3
  rw [dC, Option.bind_some] at hE18
  simp only [Option.bind_some, List.getElem?_cons_zero, List.getElem?_cons_succ, int?_int, AVal.bool?, AVal.ptr?, AVal.sl?, AVal.tup?, AVal.agg?, AVal.ifc?, AVal.fn?, AVal.str?, List.head?_cons, List.tail_cons, List.isEmpty_nil, cond_true, cond_false, Option.isNone_some, Option.isNone_none, Bool.not_true, Bool.not_false, decide_true, decide_false, beq_self_eq_true, bne_self_eq_false, Int.reduceBEq, Int.reduceBNe, Int.cast_ofNat_Int] at hE18
  have rC := c18 hE18
  have u04 := u1.trans (u2.trans (u3.trans u4))
  have hfs := fold_shown L ⟨xs, [], false, 0, arg⟩ (Nat.zero_le _)
  have hfs' : (L.foldl ScS.deed ⟨xs, [], false, 0, arg⟩).shown.length = xs.length := hfs
  have wl := o3.1
  have e1 := EqBytes_C (M := M4) (a := w.1) (l := w.2.1) (c := .known w.2.1) (by
    have := (o3.upto u4).ints
    by_cases h0 : 0 < w.2.1
    · obtain ⟨o, g1, g2, g3⟩ := o3.2 h0
      rw [g1] at this ⊢
      rw [g2] at this
      exact this
    · have hw0 : w.2.1 = 0 := by omega
      rw [hw0] at this ⊢
      exact this) o4.ints (by omega)
  have e2 := EqBytes_C (M := M4) ((k3.upto (u2.trans (u3.trans u4))).ints) (ints_upto hx u04) (by omega)
  simp only [n1, decide_false, cond_false] at hE1
  rw [sC, Option.bind_some] at hE1
  simp only [Option.bind_some, List.getElem?_cons_zero, List.getElem?_cons_succ, int?_int, AVal.bool?, AVal.ptr?, AVal.sl?, AVal.tup?, AVal.agg?, AVal.ifc?, AVal.fn?, AVal.str?, List.head?_cons, List.tail_cons, List.isEmpty_nil, cond_true, cond_false, Option.isNone_some, Option.isNone_none, Bool.not_true, Bool.not_false, decide_true, decide_false, beq_self_eq_true, bne_self_eq_false, Int.reduceBEq, Int.reduceBNe, Int.cast_ofNat_Int] at hE1
  rw [rC, Option.bind_some] at hE1
  simp only [Option.bind_some, List.getElem?_cons_zero, List.getElem?_cons_succ, int?_int, AVal.bool?, AVal.ptr?, AVal.sl?, AVal.tup?, AVal.agg?, AVal.ifc?, AVal.fn?, AVal.str?, List.head?_cons, List.tail_cons, List.isEmpty_nil, cond_true, cond_false, Option.isNone_some, Option.isNone_none, Bool.not_true, Bool.not_false, decide_true, decide_false, beq_self_eq_true, bne_self_eq_false, Int.reduceBEq, Int.reduceBNe, Int.cast_ofNat_Int, bne_self_eq_false] at hE1
  rw [e1, Option.bind_some] at hE1
  simp only [Option.bind_some, List.getElem?_cons_zero, List.getElem?_cons_succ, int?_int, AVal.bool?, AVal.ptr?, AVal.sl?, AVal.tup?, AVal.agg?, AVal.ifc?, AVal.fn?, AVal.str?, List.head?_cons, List.tail_cons, List.isEmpty_nil, cond_true, cond_false, Option.isNone_some, Option.isNone_none, Bool.not_true, Bool.not_false, decide_true, decide_false, beq_self_eq_true, bne_self_eq_false, Int.reduceBEq, Int.reduceBNe, Int.cast_ofNat_Int, decide_true, Bool.not_true] at hE1
  rw [e2, Option.bind_some] at hE1
  simp only [Option.bind_some, List.getElem?_cons_zero, List.getElem?_cons_succ, int?_int, AVal.bool?, AVal.ptr?, AVal.sl?, AVal.tup?, AVal.agg?, AVal.ifc?, AVal.fn?, AVal.str?, List.head?_cons, List.tail_cons, List.isEmpty_nil, cond_true, cond_false, Option.isNone_some, Option.isNone_none, Bool.not_true, Bool.not_false, decide_true, decide_false, beq_self_eq_true, bne_self_eq_false, Int.reduceBEq, Int.reduceBNe, Int.cast_ofNat_Int, decide_true, Bool.not_true] at hE1
  have hE2 := p4_2_eq C prog.meth ba bl bc a1 l1 c1 v.1 v.2.1 v.2.2 a l c w.1 w.2.1 (.known w.2.1) M4
  -- the object of the answer
  obtain ⟨o, ho1, ho2, ho3⟩ : ∃ o, (0 < w.2.1 → w.1 = some (o, 0)) ∧ M2.n ≤ o ∧ (0 < w.2.1 → M4.get o = some ⟨(L.foldl ScS.deed ⟨xs, [], false, 0, arg⟩).shown.map (.int .u8), .grow 1⟩) := by
    by_cases h0 : 0 < w.2.1
    · obtain ⟨o, g1, g2, g3⟩ := o3.2 h0
      exact ⟨o, fun _ => g1, f3 o (by rw [fpS_of g1 h0]; simp), fun _ => u4.get g3⟩
    · exact ⟨M2.n, fun h => absurd h h0, Nat.le_refl _, fun h => absurd h h0⟩
  obtain ⟨M5, t1, t2, t3⟩ := shown_turn (a1 := a1) (l1 := l1) (c1 := c1) (w0 := ba) (wl := bl) (wc := bc) (ia := v.1) (il := v.2.1) (ic := v.2.2) (da := a) (dl := l) (dc := c) ho1 (by omega) w.2.1 0 M4 _ (by omega) wl ho3
  have old : ∀ y, y < M2.n → M5.get y = M4.get y := fun y hy => t3.2 y (by have := u3.1; have := u4.1; omega) (by omega)
  have n4 := u04.1
  have n24 := (u3.trans u4).1
  have u12 := u2.1
  have u05 : M.Upto M5 := ⟨by omega, fun y hy => by rw [old y (by have := u1.1; omega), u04.2 y hy]⟩
  have u15 : M1.Upto M5 := ⟨by omega, fun y hy => by rw [old y (by omega), (u2.trans (u3.trans u4)).2 y hy]⟩
  have h5 : OD M1.n M2.n M5 a l c rows L := q3.keep (by omega) (fun y _ hy => by rw [old y hy, (u3.trans u4).2 y hy])
  obtain ⟨M', r⟩ := shown_kept hd (by omega) hok u05 (h5.deeds (.inr h5.top)) (ints_upto hx u05) (k3.upto u15).ints (by omega) L.length 0 (by omega)
  exact ⟨M', c4 (hE.trans (q1.trans (hE1.trans (hE2.trans (t1.trans r)))))⟩
theorem ForeignShown_law : ∀ avs M, M.Whole → okL M.n avs → ShowsArgs M [(false, [.sl 1 [.int .u8]]), (false, [.int .u64]), (false, [.sl 40 [.int .u8, .int .i64, .sl 1 [.int .u8]]])] avs → (∀ L, L = 1048576 → RoNew L Mem.empty M) → ∃ M', C 4 avs M = some (.bool true, M') := by
  intro avs M hM hok h hq
  simp only [ShowsArgs, ShowsArg] at h
  obtain ⟨v, _, rfl, ⟨t, ht, hv⟩, w, _, rfl, ⟨t2, ht2, hw⟩, z, _, rfl, ⟨t', ht', hz⟩, rfl⟩ := h
  obtain rfl : t = .sl 1 [.int .u8] := by simpa using ht.symm
  obtain rfl : t2 = .int .u64 := by simpa using ht2.symm
  obtain rfl : t' = .sl 40 [.int .u8, .int .i64, .sl 1 [.int .u8]] := by simpa using ht'.symm
  obtain ⟨a, l, c, xs, rfl, hx, hl, hwf⟩ := hv.ints
  have hle := hv.ints_le (hq _ rfl)
  simp only [Shows] at hw
  obtain ⟨arg, rfl, hwa⟩ := hw
  obtain ⟨a1, l1, c1, rfl, hl1⟩ := hz.form
  have hl1' := rows_le hz (hq _ rfl) (by simp)
  obtain ⟨L, hd, hall⟩ := deeds_of (fun i hi => hz.row hi) (hq _ rfl)
  have hlen := hd.len
  exact ForeignShown_C hd (fun d hd => (hall d hd).1) (by omega) (fun d hd => (hall d hd).2) hx hle
end Go.Proofs.Ytjcakemgghfflaa.M
