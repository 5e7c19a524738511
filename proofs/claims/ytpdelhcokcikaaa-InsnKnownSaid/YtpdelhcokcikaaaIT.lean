/- The laws of insn: a bit turned. -/
import Derived.Test.YtpdelhcokcikaaaIQ
set_option linter.unusedVariables false
set_option linter.unusedSimpArgs false
set_option linter.unnecessarySimpa false
set_option maxRecDepth 100000
namespace Go.Proofs.Ytpdelhcokcikaaa.M
open Go.Abs

theorem tmod_bounds (x n : Int) (hn : 0 < n) : -n < Int.tmod x n ∧ Int.tmod x n < n := by
  have h1 := Int.tmod_lt_of_pos x hn
  have h2 := Int.lt_tmod_of_pos x hn
  omega
theorem Bring_C {i n : Int} {M : Mem} (hn : 0 < n) (h : n < 9223372036854775808) : ∃ r : Nat, (r : Int) < n ∧ C 26 [.int .i64 i, .int .i64 n] M = some (.int .i64 (r : Int), M) := by
  obtain ⟨h1, h2⟩ := tmod_bounds i n hn
  have h := p26_0_eq C prog.meth i n M
  have h0 : (n == 0) = false := by simp; omega
  rw [h0, cond_false] at h
  by_cases hneg : Int.tmod i n < 0
  · simp only [hneg, decide_true, cond_true] at h
    rw [wrap_i64 (by omega) (by omega)] at h
    obtain ⟨r, hr⟩ := Int.eq_ofNat_of_zero_le (show 0 ≤ Int.tmod i n + n by omega)
    rw [hr] at h
    exact ⟨r, by omega, c26 h⟩
  · simp only [hneg, decide_false, cond_false] at h
    obtain ⟨r, hr⟩ := Int.eq_ofNat_of_zero_le (show 0 ≤ Int.tmod i n by omega)
    rw [hr] at h
    exact ⟨r, by omega, c26 h⟩
theorem few1 : ∀ (a b : Bool) (x y : Fin 10), (nums (fun k => (a && Nat.beq x.val k) || (b && Nat.beq y.val k)) 0 10).length ≤ 3 := by
  have : decide (∀ (a b : Bool) (x y : Fin 10), (nums (fun k => (a && Nat.beq x.val k) || (b && Nat.beq y.val k)) 0 10).length ≤ 3) = true := by kernel_rfl
  exact of_decide_eq_true this
theorem few2 : ∀ (a : Fin 4), (nums (fun k => Nat.ble 1 k && Nat.ble k a.val) 0 10).length ≤ 3 := by
  have : decide (∀ (a : Fin 4), (nums (fun k => Nat.ble 1 k && Nat.ble k a.val) 0 10).length ≤ 3) = true := by kernel_rfl
  exact of_decide_eq_true this
theorem dec_beq (x k : Nat) : decide ((x : Int) = k) = Nat.beq x k := by
  by_cases h : x = k
  · subst h; simp
  · rw [Abs.beq_false h]; exact decide_eq_false (by omega)
section
variable {op op' : Nat} {d s o i d' s' o' i' : Int}
theorem regs_le3 (h : InsnR op d s o i) : (regs op d s o i).length ≤ 3 := by
  unfold regs
  cases hok : okB op d s o i with
  | false => simp
  | true =>
    have hsm := okB_small hok
    have hd := h.d
    have hs := h.s
    obtain ⟨sn, rfl⟩ : ∃ n : Nat, s = (n : Int) := ⟨s.toNat, by omega⟩
    obtain ⟨dn, rfl⟩ : ∃ n : Nat, d = (n : Int) := ⟨d.toNat, by omega⟩
    rw [cond_true]
    by_cases h35 : op = 35
    · subst h35
      have ha := argsI_le i
      obtain ⟨an, han⟩ : ∃ n : Nat, argsI i = (n : Int) := ⟨(argsI i).toNat, by omega⟩
      have := few2 ⟨an, by omega⟩
      rw [nums_congr 10 0 (g := fun k => Nat.ble 1 k && Nat.ble k an) (fun k _ _ => ?_)]
      · exact this
      · unfold rdB
        rw [han]
        have e1 : hasS (cls 35) = false := rfl
        have e2 : hasD (cls 35) = false := rfl
        have e3 : Nat.beq 35 36 = false := rfl
        have e4 : Nat.beq 35 35 = true := rfl
        rw [e1, e2, e3, e4]
        simp only [Bool.false_and, Bool.false_or, Bool.true_and]
        congr 1
        · by_cases q : 1 ≤ k
          · rw [decide_eq_true q, ble_iff.2 q]
          · rw [decide_eq_false q]
            cases hb : Nat.ble 1 k with
            | false => rfl
            | true => exact absurd (ble_iff.1 hb) q
        · by_cases q : k ≤ an
          · rw [ble_iff.2 q]; exact decide_eq_true (by omega)
          · cases hb : Nat.ble k an with
            | false => exact decide_eq_false (by omega)
            | true => exact absurd (ble_iff.1 hb) q
    · by_cases h36 : op = 36
      · subst h36
        have := few1 true false ⟨0, by omega⟩ ⟨0, by omega⟩
        rw [nums_congr 10 0 (g := fun k => (true && Nat.beq 0 k) || (false && Nat.beq 0 k)) (fun k _ _ => ?_)]
        · exact this
        · unfold rdB
          have e1 : hasS (cls 36) = false := rfl
          have e2 : hasD (cls 36) = false := rfl
          have e3 : Nat.beq 36 36 = true := rfl
          have e4 : Nat.beq 36 35 = false := rfl
          rw [e1, e2, e3, e4]
          simp only [Bool.false_and, Bool.false_or, Bool.true_and, Bool.or_false]
          by_cases q : k = 0
          · subst q; rfl
          · rw [Abs.beq_false q, Abs.beq_false (fun e => q e.symm)]
      · have := few1 (hasS (cls op)) (hasD (cls op) && !setsOp op) ⟨sn, by omega⟩ ⟨dn, by omega⟩
        rw [nums_congr 10 0 (g := fun k => (hasS (cls op) && Nat.beq sn k) || (hasD (cls op) && !setsOp op && Nat.beq dn k)) (fun k _ _ => ?_)]
        · exact this
        · unfold rdB
          rw [Abs.beq_false h35, Abs.beq_false h36, dec_beq, dec_beq]
          simp only [Bool.false_and, Bool.or_false]
theorem wr_small (h : InsnR op d s o i) : 0 ≤ wrI op d s o i ∧ wrI op d s o i ≤ 9 ∧ (wrB op d s o i = false → wrI op d s o i = 0) := by
  unfold wrI wrB
  cases hok : okB op d s o i with
  | false => simp
  | true =>
    have hsm := okB_small hok
    have hd := h.d
    simp only [cond_true]
    cases decide ((op : Int) ≤ 18) <;> cases ((op : Int) == 21) <;> simp <;> omega
theorem bit_loop {M : Mem} {b : Nat} {v : SlV} (h : InsnR op d s o i) (hb : M.get b = some ⟨[.int .u8 (op : Int), .int .u8 d, .int .u8 s, .int .i16 o, .int .i32 i], .fixed⟩) (ho : OwnK .i64 M v (regs op d s o i)) :
    ∀ (n j : Nat), j + n = v.2.1 → p8_2 C prog.meth b v.1 v.2.1 v.2.2 j M = some (.bool true, M) := by
  have hl3 := regs_le3 h
  have hl := ho.1
  intro n
  induction n with
  | zero =>
    intro j hj
    have hE := p8_2_eq C prog.meth b v.1 v.2.1 v.2.2 j M
    have c1 : ¬ ((j : Int) < (v.2.1 : Int)) := by omega
    obtain ⟨Ma, ca, _⟩ := Writes_C (M := Mem.empty) h
    have hw := wr_small h
    have c3 : ((v.2.1 : Nat) : Int) ≤ 3 := by omega
    have c4 : wrI op d s o i ≥ 0 := hw.1
    simp only [c1, ldI_at hb, Option.bind_some, List.getElem?_cons_zero, List.getElem?_cons_succ, int?_int, AVal.bool?, AVal.ptr?, AVal.sl?, AVal.tup?, AVal.agg?, AVal.ifc?, AVal.fn?, AVal.str?, List.head?_cons, List.tail_cons, List.isEmpty_nil, cond_true, cond_false, Option.isNone_some, Option.isNone_none, Bool.not_true, Bool.not_false, decide_true, decide_false, beq_self_eq_true, bne_self_eq_false, Int.reduceBEq, Int.reduceBNe, Int.cast_ofNat_Int] at hE
    rw [ca, Option.bind_some] at hE
    simp only [Option.bind_some, List.getElem?_cons_zero, List.getElem?_cons_succ, int?_int, AVal.bool?, AVal.ptr?, AVal.sl?, AVal.tup?, AVal.agg?, AVal.ifc?, AVal.fn?, AVal.str?, List.head?_cons, List.tail_cons, List.isEmpty_nil, cond_true, cond_false, Option.isNone_some, Option.isNone_none, Bool.not_true, Bool.not_false, decide_true, decide_false, beq_self_eq_true, bne_self_eq_false, Int.reduceBEq, Int.reduceBNe, Int.cast_ofNat_Int, c4, hw.2.1, c3] at hE
    rw [hE]
    cases hB : wrB op d s o i with
    | true => rfl
    | false => rw [hw.2.2 hB]; rfl
  | succ n ih =>
    intro j hj
    have hE := p8_2_eq C prog.meth b v.1 v.2.1 v.2.2 j M
    have c1 : ((j : Int) < (v.2.1 : Int)) := by omega
    have c0 : (0 : Int) ≤ (j : Int) := by omega
    have c2 : Nat.blt j v.2.1 = true := Mem.blt_iff.2 (by omega)
    have hw : IntKind.wrap .i64 ((j : Int) + 1) = ((j + 1 : Nat) : Int) := by rw [wrap_i64 (by omega) (by omega)]; rfl
    obtain ⟨q, e1, e2⟩ := ho.get (i := j) (by omega)
    have hm := regs_mem (List.getElem_mem (show j < (regs op d s o i).length by omega))
    generalize hx : (regs op d s o i)[j]'(by omega) = x at e2 hm
    have c5 : ¬ (x < 0) := by omega
    have c6 : ¬ (x > 9) := by omega
    rw [← ih (j + 1) (by omega)]
    simp only [c1, c0, c2, decide_true, cond_true, Int.toNat_natCast, e1, Option.bind_some, Nat.mul_one, Nat.zero_add, e2, c5, c6, decide_false, cond_false, hw] at hE
    by_cases hj0 : j = 0
    · have : ¬ ((j : Int) > 0) := by omega
      simp only [this, decide_false, cond_false] at hE
      exact hE
    · have g1 : ((j : Int) > 0) := by omega
      have g2 : IntKind.wrap .i64 ((j : Int) - 1) = ((j - 1 : Nat) : Int) := by rw [wrap_i64 (by omega) (by omega)]; omega
      have g3 : (0 : Int) ≤ ((j - 1 : Nat) : Int) := by omega
      have g4 : Nat.blt (j - 1) v.2.1 = true := Mem.blt_iff.2 (by omega)
      obtain ⟨q', e1', e2'⟩ := ho.get (i := j - 1) (by omega)
      rw [e1] at e1'
      obtain rfl := (Prod.mk.inj (Option.some.inj e1')).1
      have hlt := List.pairwise_iff_getElem.1 (regs_lt (op := op) (d := d) (s := s) (o := o) (i := i)) (j - 1) j (by omega) (by omega) (by omega)
      rw [hx] at hlt
      generalize (regs op d s o i)[j - 1]'(by omega) = y at e2' hlt
      have g5 : ¬ (x ≤ y) := by omega
      simp only [g1, g2, g3, g4, decide_true, cond_true, Int.toNat_natCast, Option.bind_some, e2', g5, decide_false, cond_false] at hE
      exact hE
theorem bit_end (h : InsnR op d s o i) {M : Mem} {b : Nat} (hb : M.get b = some ⟨[.int .u8 (op : Int), .int .u8 d, .int .u8 s, .int .i16 o, .int .i32 i], .fixed⟩) : ∃ M', p8_1 C prog.meth b M = some (.bool true, M') := by
  have hE := p8_1_eq C prog.meth b M
  obtain ⟨M2, v, q, u, ho, _⟩ := Reads_C (M := M) h
  simp only [ldI_at hb, Option.bind_some, List.getElem?_cons_zero, List.getElem?_cons_succ, int?_int, AVal.bool?, AVal.ptr?, AVal.sl?, AVal.tup?, AVal.agg?, AVal.ifc?, AVal.fn?, AVal.str?, List.head?_cons, List.tail_cons, List.isEmpty_nil, cond_true, cond_false, Option.isNone_some, Option.isNone_none, Bool.not_true, Bool.not_false, decide_true, decide_false, beq_self_eq_true, bne_self_eq_false, Int.reduceBEq, Int.reduceBNe, Int.cast_ofNat_Int] at hE
  rw [q, Option.bind_some] at hE
  simp only [Option.bind_some, List.getElem?_cons_zero, List.getElem?_cons_succ, int?_int, AVal.bool?, AVal.ptr?, AVal.sl?, AVal.tup?, AVal.agg?, AVal.ifc?, AVal.fn?, AVal.str?, List.head?_cons, List.tail_cons, List.isEmpty_nil, cond_true, cond_false, Option.isNone_some, Option.isNone_none, Bool.not_true, Bool.not_false, decide_true, decide_false, beq_self_eq_true, bne_self_eq_false, Int.reduceBEq, Int.reduceBNe, Int.cast_ofNat_Int] at hE
  exact ⟨M2, hE.trans (bit_loop h (u.get hb) ho v.2.1 0 (by omega))⟩
theorem xorW {W r : Nat} (hW : W < 2 ^ 64) (hr : r < 64) : IntKind.wrap .u64 ((BitVec.ofInt (IntKind.bits .u64) (W : Int) ^^^ BitVec.ofInt (IntKind.bits .u64) (IntKind.wrap .u64 (1 * 2 ^ Nat.min (r : Int).toNat (IntKind.bits .u64)))).toNat) = ((W ^^^ 2 ^ r : Nat) : Int) := by
  have e1 : Nat.min (r : Int).toNat (IntKind.bits .u64) = r := by
    rw [Int.toNat_natCast, show IntKind.bits .u64 = 64 from rfl]; exact Nat.min_eq_left (by omega)
  have h2 : 2 ^ r < 2 ^ 64 := Nat.pow_lt_pow_right (by omega) hr
  have e2 : IntKind.wrap .u64 (1 * 2 ^ r) = ((2 ^ r : Nat) : Int) := by
    rw [Int.one_mul, show (2 : Int) ^ r = ((2 ^ r : Nat) : Int) by simp, wu64]
    generalize 2 ^ r = y at h2
    omega
  rw [e1, e2, xor_nat _ _ hW h2, wu64]
  have := Nat.xor_lt_two_pow hW h2
  omega
theorem xor_ne (W r : Nat) : W ^^^ 2 ^ r ≠ W := by
  intro h
  have := congrArg (fun x => Nat.testBit x r) h
  simp [Nat.testBit_xor, Nat.testBit_two_pow_self] at this
theorem InsnBit_C {x : Int} (h : InsnR op d s o i) (M : Mem) : ∃ M', C 8 [insnA op d s o i, .int .i64 x] M = some (.bool true, M') := by
  have hE := p8_0_eq C prog.meth op d s o i x M
  obtain ⟨M1, e1, g1, u1, n1⟩ := alloc_at M ⟨[.int .u8 (op : Int), .int .u8 d, .int .u8 s, .int .i16 o, .int .i32 i], .fixed⟩
  rw [e1] at hE
  obtain ⟨Mw, cw⟩ := works_C
  obtain ⟨Ma, ca, _⟩ := Encode_C (M := Mem.empty) h
  rw [cw, Option.bind_some] at hE
  simp only [ldI_at g1, Option.bind_some, List.getElem?_cons_zero, List.getElem?_cons_succ, int?_int, AVal.bool?, AVal.ptr?, AVal.sl?, AVal.tup?, AVal.agg?, AVal.ifc?, AVal.fn?, AVal.str?, List.head?_cons, List.tail_cons, List.isEmpty_nil, cond_true, cond_false, Option.isNone_some, Option.isNone_none, Bool.not_true, Bool.not_false, decide_true, decide_false, beq_self_eq_true, bne_self_eq_false, Int.reduceBEq, Int.reduceBNe, Int.cast_ofNat_Int] at hE
  rw [ca, Option.bind_some] at hE
  simp only [Option.bind_some, List.getElem?_cons_zero, List.getElem?_cons_succ, int?_int, AVal.bool?, AVal.ptr?, AVal.sl?, AVal.tup?, AVal.agg?, AVal.ifc?, AVal.fn?, AVal.str?, List.head?_cons, List.tail_cons, List.isEmpty_nil, cond_true, cond_false, Option.isNone_some, Option.isNone_none, Bool.not_true, Bool.not_false, decide_true, decide_false, beq_self_eq_true, bne_self_eq_false, Int.reduceBEq, Int.reduceBNe, Int.cast_ofNat_Int] at hE
  rw [(errI_ne _).2.1] at hE
  cases hok : okB op d s o i with
  | false =>
    obtain ⟨M2, v, q, u, ho, _⟩ := Reads_C (M := M1) h
    have hr : regs op d s o i = [] := by unfold regs; rw [hok]; rfl
    rw [hr] at ho
    have h0 : v.2.1 = 0 := by have := ho.1; simpa using this.symm
    rw [hok] at hE
    simp only [Option.bind_some, List.getElem?_cons_zero, List.getElem?_cons_succ, int?_int, AVal.bool?, AVal.ptr?, AVal.sl?, AVal.tup?, AVal.agg?, AVal.ifc?, AVal.fn?, AVal.str?, List.head?_cons, List.tail_cons, List.isEmpty_nil, cond_true, cond_false, Option.isNone_some, Option.isNone_none, Bool.not_true, Bool.not_false, decide_true, decide_false, beq_self_eq_true, bne_self_eq_false, Int.reduceBEq, Int.reduceBNe, Int.cast_ofNat_Int] at hE
    rw [q, Option.bind_some] at hE
    simp only [Option.bind_some, List.getElem?_cons_zero, List.getElem?_cons_succ, int?_int, AVal.bool?, AVal.ptr?, AVal.sl?, AVal.tup?, AVal.agg?, AVal.ifc?, AVal.fn?, AVal.str?, List.head?_cons, List.tail_cons, List.isEmpty_nil, cond_true, cond_false, Option.isNone_some, Option.isNone_none, Bool.not_true, Bool.not_false, decide_true, decide_false, beq_self_eq_true, bne_self_eq_false, Int.reduceBEq, Int.reduceBNe, Int.cast_ofNat_Int, h0] at hE
    exact ⟨M2, c8 hE⟩
  | true =>
    have hsm := okB_small hok
    have hW := wordN_lt h hsm.1 hsm.2.1
    obtain ⟨r, hr, cr⟩ := Bring_C (i := x) (n := 64) (M := Mem.empty) (by omega) (by omega)
    have hr0 : ¬ ((r : Int) < 0) := by omega
    rw [hok] at hE
    simp only [Option.bind_some, List.getElem?_cons_zero, List.getElem?_cons_succ, int?_int, AVal.bool?, AVal.ptr?, AVal.sl?, AVal.tup?, AVal.agg?, AVal.ifc?, AVal.fn?, AVal.str?, List.head?_cons, List.tail_cons, List.isEmpty_nil, cond_true, cond_false, Option.isNone_some, Option.isNone_none, Bool.not_true, Bool.not_false, decide_true, decide_false, beq_self_eq_true, bne_self_eq_false, Int.reduceBEq, Int.reduceBNe, Int.cast_ofNat_Int] at hE
    rw [cr, Option.bind_some] at hE
    simp only [Option.bind_some, List.getElem?_cons_zero, List.getElem?_cons_succ, int?_int, AVal.bool?, AVal.ptr?, AVal.sl?, AVal.tup?, AVal.agg?, AVal.ifc?, AVal.fn?, AVal.str?, List.head?_cons, List.tail_cons, List.isEmpty_nil, cond_true, cond_false, Option.isNone_some, Option.isNone_none, Bool.not_true, Bool.not_false, decide_true, decide_false, beq_self_eq_true, bne_self_eq_false, Int.reduceBEq, Int.reduceBNe, Int.cast_ofNat_Int, hr0] at hE
    rw [xorW hW (by omega)] at hE
    have hne := xor_ne (wordN op d s o i) r
    have hW' : wordN op d s o i ^^^ 2 ^ r < 2 ^ 64 := Nat.xor_lt_two_pow hW (Nat.pow_lt_pow_right (by omega) (by omega))
    generalize wordN op d s o i ^^^ 2 ^ r = W at hE hne hW'
    obtain ⟨Mb, cb, _⟩ := Decode_C (M := Mem.empty) hW'
    obtain ⟨op2, d2, s2, o2, i2, er, hcase⟩ := readC_cases W
    rw [er] at cb
    obtain ⟨M2, e2, g2, u2, n2⟩ := alloc_at M1 ⟨[.int .u8 0, .int .u8 0, .int .u8 0, .int .i16 0, .int .i32 0], .fixed⟩
    obtain ⟨M3, s3, g3, n3, b3⟩ := st_at (i := 0) (vs := [.int .u8 (op2 : Int), .int .u8 d2, .int .u8 s2, .int .i16 o2, .int .i32 i2]) g2 (by simp)
    have g3' : M3.get M1.n = some ⟨[.int .u8 (op2 : Int), .int .u8 d2, .int .u8 s2, .int .i16 o2, .int .i32 i2], .fixed⟩ := g3
    have g13 : M3.get M.n = some ⟨[.int .u8 (op : Int), .int .u8 d, .int .u8 s, .int .i16 o, .int .i32 i], .fixed⟩ := b3.get (u2.get g1) (by omega)
    obtain ⟨M4, q4⟩ := bit_end h g13
    rw [cb, Option.bind_some] at hE
    simp only [Option.bind_some, List.getElem?_cons_zero, List.getElem?_cons_succ, int?_int, AVal.bool?, AVal.ptr?, AVal.sl?, AVal.tup?, AVal.agg?, AVal.ifc?, AVal.fn?, AVal.str?, List.head?_cons, List.tail_cons, List.isEmpty_nil, cond_true, cond_false, Option.isNone_some, Option.isNone_none, Bool.not_true, Bool.not_false, decide_true, decide_false, beq_self_eq_true, bne_self_eq_false, Int.reduceBEq, Int.reduceBNe, Int.cast_ofNat_Int, e2] at hE
    rw [s3, Option.bind_some] at hE
    simp only [ldI_at g3', ldI_at g13, Option.bind_some, List.getElem?_cons_zero, List.getElem?_cons_succ, int?_int, AVal.bool?, AVal.ptr?, AVal.sl?, AVal.tup?, AVal.agg?, AVal.ifc?, AVal.fn?, AVal.str?, List.head?_cons, List.tail_cons, List.isEmpty_nil, cond_true, cond_false, Option.isNone_some, Option.isNone_none, Bool.not_true, Bool.not_false, decide_true, decide_false, beq_self_eq_true, bne_self_eq_false, Int.reduceBEq, Int.reduceBNe, Int.cast_ofNat_Int] at hE
    rw [(errI_ne _).1, (errI_ne _).2.1] at hE
    refine ⟨M4, c8 (hE.trans ?_)⟩
    rcases hcase with ⟨hok2, h1, h2, h3, h4, h5⟩ | ⟨hok2, h1, h2, h3, h4, h5⟩
    · rw [hok2]
      have hall : ((op2 : Int) == (op : Int) && (d2 == d && (s2 == s && (o2 == o && (i2 == i && true))))) = false := by
        cases hb : ((op2 : Int) == (op : Int) && (d2 == d && (s2 == s && (o2 == o && (i2 == i && true))))) with
        | false => rfl
        | true =>
          simp only [Bool.and_eq_true, beq_iff_eq, and_true] at hb
          obtain ⟨k1, k2, k3, k4, k5⟩ := hb
          have k1 : op2 = op := by omega
          have := back_word hW'
          rw [← h1, ← h2, ← h3, ← h4, ← h5, k1, k2, k3, k4, k5] at this
          exact absurd this.symm hne
      rw [hall]
      exact q4
    · rw [hok2, h1, h2, h3, h4, h5]
      exact q4
end
theorem InsnBit_law : ∀ avs M, M.Whole → okL M.n avs → ShowsArgs M [(true, [.int .u8, .int .u8, .int .u8, .int .i16, .int .i32]), (false, [.int .i64])] avs → ∃ M', C 8 avs M = some (.bool true, M') := by
  intro avs M hM hok h
  rw [ShowsArgs] at h
  obtain ⟨v, _, rfl, hv, h⟩ := h
  simp only [ShowsArgs, ShowsArg] at h
  obtain ⟨v, _, rfl, ⟨t, ht, hv3⟩, rfl⟩ := h
  obtain rfl : t = .int .i64 := by simpa using ht.symm
  simp only [Shows] at hv3
  obtain ⟨n, rfl, hn⟩ := hv3
  obtain ⟨op, d, s, o, i, rfl, hR⟩ := insn_arg hv
  exact InsnBit_C hR M
end Go.Proofs.Ytpdelhcokcikaaa.M
