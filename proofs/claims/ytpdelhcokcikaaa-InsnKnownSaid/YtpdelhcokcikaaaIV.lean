/- The package insn: Reads. -/
import Derived.Test.YtpdelhcokcikaaaIU
set_option linter.unusedVariables false
set_option linter.unusedSimpArgs false
set_option linter.unnecessarySimpa false
set_option maxRecDepth 100000
namespace Go.Proofs.Ytpdelhcokcikaaa.M
open Go.Abs

theorem rowBits {op : Nat} (h : op ≤ 36) : (bt (rowI op) 2 != 0) = hasS (cls op) ∧ (bt (rowI op) 1 != 0) = hasD (cls op) ∧ (bt (rowI op) 1024 == 0) = !setsOp op := by
  rcases ops37 h with rfl | rfl | rfl | rfl | rfl | rfl | rfl | rfl | rfl | rfl | rfl | rfl | rfl | rfl | rfl | rfl | rfl | rfl | rfl | rfl | rfl | rfl | rfl | rfl | rfl | rfl | rfl | rfl | rfl | rfl | rfl | rfl | rfl | rfl | rfl | rfl | rfl <;> exact ⟨rfl, rfl, rfl⟩
theorem beqN (a b : Nat) : ((a : Int) == (b : Int)) = Nat.beq a b := by
  by_cases h : a = b
  · subst h; simp
  · rw [Abs.beq_false h]; simp; omega
theorem pow9 {k : Nat} (h : k ≤ 9) : 2 ^ k < 1024 := Nat.lt_of_le_of_lt (Nat.pow_le_pow_right (by omega) h) (by omega)
section
variable {M : Mem} {op : Nat} {d s o i : Int}
theorem Reads_C (h : InsnR op d s o i) : ∃ M' v, C 17 [.agg [.int .u8 (op : Int), .int .u8 d, .int .u8 s, .int .i16 o, .int .i32 i]] M = some (.sl v.1 v.2.1 v.2.2, M') ∧ M.Upto M' ∧ OwnK .i64 M' v (regs op d s o i) ∧ (∀ o ∈ fpS v, M.n ≤ o) := by
  have hE := p17_0_eq C prog.meth op d s o i M
  obtain ⟨M1, e1, g1, u1, n1⟩ := alloc_at M ⟨[.int .u8 (op : Int), .int .u8 d, .int .u8 s, .int .i16 o, .int .i32 i], .fixed⟩
  rw [e1] at hE
  obtain ⟨Mc, c1, _⟩ := Check_B (M := Mem.empty) h
  simp only [ldI_at g1, Option.bind_some, List.getElem?_cons_zero, List.getElem?_cons_succ, int?_int, AVal.bool?, AVal.ptr?, AVal.sl?, AVal.tup?, AVal.agg?, AVal.ifc?, AVal.fn?, AVal.str?, List.head?_cons, List.tail_cons, List.isEmpty_nil, cond_true, cond_false, Option.isNone_some, Option.isNone_none, Bool.not_true, Bool.not_false, decide_true, decide_false, beq_self_eq_true, bne_self_eq_false, Int.reduceBEq, Int.reduceBNe, Int.cast_ofNat_Int, c1] at hE
  unfold regs
  cases hok : okB op d s o i with
  | false =>
    have e0 : (errI false != 0) = true := rfl
    rw [hok] at hE
    simp only [e0, cond_true] at hE
    exact ⟨M1, (none, 0, .known 0), c17 hE, u1, OwnK.nil _ _, by simp [fpS]⟩
  | true =>
    have e0 : (errI true != 0) = false := rfl
    rw [hok] at hE
    have hsm := okB_small hok
    have hd0 := h.d
    have hs0 := h.s
    have hrb := rowBits hsm.2.2.1
    simp only [e0, row_C, Option.bind_some, List.getElem?_cons_zero, List.getElem?_cons_succ, int?_int, AVal.bool?, AVal.ptr?, AVal.sl?, AVal.tup?, AVal.agg?, AVal.ifc?, AVal.fn?, AVal.str?, List.head?_cons, List.tail_cons, List.isEmpty_nil, cond_true, cond_false, Option.isNone_some, Option.isNone_none, Bool.not_true, Bool.not_false, decide_true, decide_false, beq_self_eq_true, bne_self_eq_false, Int.reduceBEq, Int.reduceBNe, Int.cast_ofNat_Int] at hE
    have e : ∀ k, IntKind.wrap .i64 ((BitVec.ofInt (IntKind.bits .i64) (rowI op) &&& BitVec.ofInt (IntKind.bits .i64) k).toNat) = bt (rowI op) k := fun k => rfl
    rw [e, hrb.1] at hE
    obtain ⟨sn, hsn⟩ : ∃ n : Nat, s = (n : Int) := ⟨s.toNat, by omega⟩
    obtain ⟨dn, hdn⟩ : ∃ n : Nat, d = (n : Int) := ⟨d.toNat, by omega⟩
    have hs2 := pow9 (k := sn) (by omega)
    have hd2 := pow9 (k := dn) (by omega)
    -- the first bit
    have k1 : p17_0 C prog.meth op d s o i M = p17_1 C prog.meth M.n (rowI op) ((cond (hasS (cls op)) (2 ^ sn) 0 : Nat) : Int) M1 := by
      refine hE.trans ?_
      have h1 := or_natI 0 (2 ^ sn) (by omega) (by omega)
      rw [Nat.zero_or, show ((0 : Nat) : Int) = 0 from rfl, ← shlI (k := sn) (by omega)] at h1
      have h2 : ¬ ((sn : Int) < 0) := by omega
      rw [hsn]
      simp only [h2, decide_false, cond_false, h1]
      rw [shlI (by omega)]
      cases hasS (cls op) <;> rfl
    -- the second one
    have k2 : ∀ b : Nat, b < 1024 → p17_1 C prog.meth M.n (rowI op) (b : Int) M1 = p17_2 C prog.meth M.n ((b ||| cond (hasD (cls op) && !setsOp op) (2 ^ dn) 0 : Nat) : Int) M1 := by
      intro b hb
      have hE := p17_1_eq C prog.meth M.n (rowI op) (b : Int) M1
      rw [e, e, hrb.2.1, hrb.2.2] at hE
      refine hE.trans ?_
      have h1 := or_natI b (2 ^ dn) (by omega) (by omega)
      rw [← shlI (k := dn) (by omega)] at h1
      have h2 : ¬ ((dn : Int) < 0) := by omega
      rw [hdn] at g1
      simp only [ldI_at g1, Option.bind_some, List.getElem?_cons_zero, List.getElem?_cons_succ, int?_int, AVal.bool?, AVal.ptr?, AVal.sl?, AVal.tup?, AVal.agg?, AVal.ifc?, AVal.fn?, AVal.str?, List.head?_cons, List.tail_cons, List.isEmpty_nil, cond_true, cond_false, Option.isNone_some, Option.isNone_none, Bool.not_true, Bool.not_false, decide_true, decide_false, beq_self_eq_true, bne_self_eq_false, Int.reduceBEq, Int.reduceBNe, Int.cast_ofNat_Int, h2, h1]
      cases hasD (cls op) <;> cases setsOp op <;> simp
    have k3 : ∀ b : Nat, b < 1024 → p17_2 C prog.meth M.n (b : Int) M1 = p17_3 C prog.meth (((b ||| cond (Nat.beq op 36) 1 0) ||| cond (Nat.beq op 35) (2 ^ (argsI i + 1).toNat - 2) 0 : Nat) : Int) M1 := by
      intro b hb
      have hE := p17_2_eq C prog.meth M.n (b : Int) M1
      have b36 : ((op : Int) == 36) = Nat.beq op 36 := beqN op 36
      have b35 : ((op : Int) == 35) = Nat.beq op 35 := beqN op 35
      have ha := argsI_le i
      have hw : IntKind.wrap .i64 (argsI i + 1) = argsI i + 1 := wrap_i64 (by omega) (by omega)
      have h2 : ¬ (argsI i + 1 < 0) := by omega
      simp only [ldI_at g1, Option.bind_some, List.getElem?_cons_zero, List.getElem?_cons_succ, int?_int, AVal.bool?, AVal.ptr?, AVal.sl?, AVal.tup?, AVal.agg?, AVal.ifc?, AVal.fn?, AVal.str?, List.head?_cons, List.tail_cons, List.isEmpty_nil, cond_true, cond_false, Option.isNone_some, Option.isNone_none, Bool.not_true, Bool.not_false, decide_true, decide_false, beq_self_eq_true, bne_self_eq_false, Int.reduceBEq, Int.reduceBNe, Int.cast_ofNat_Int, args_C, b36, b35, hw, h2] at hE
      refine hE.trans ?_
      cases h36 : Nat.beq op 36 with
      | true =>
        have : op = 36 := Nat.eq_of_beq_eq_true h36
        subst this
        have h1 := or_natI b 1 (by omega) (by omega)
        rw [show ((1 : Nat) : Int) = 1 from rfl] at h1
        have e35 : Nat.beq 36 35 = false := rfl
        simp only [cond_true, h1, e35, cond_false, Nat.or_zero]
      | false =>
        cases h35 : Nat.beq op 35 with
        | false => simp
        | true =>
          obtain ⟨an, han⟩ : ∃ n : Nat, argsI i + 1 = (n : Int) := ⟨(argsI i + 1).toNat, by omega⟩
          have hp := pow9 (k := an) (by omega)
          have hp1 : 2 ≤ 2 ^ an := by
            have := Nat.pow_le_pow_right (n := 2) (by omega) (show 1 ≤ an by omega)
            omega
          have h3 : IntKind.wrap .i64 (IntKind.wrap .i64 (1 * 2 ^ Nat.min (an : Int).toNat (IntKind.bits .i64)) - 2) = ((2 ^ an - 2 : Nat) : Int) := by
            rw [shlI (by omega)]
            generalize 2 ^ an = x at hp hp1
            rw [wrap_i64 (by omega) (by omega)]; omega
          have h1 := or_natI b (2 ^ an - 2) (by omega) (by omega)
          rw [han, h3]
          simp only [cond_true, cond_false, h1, Int.toNat_natCast, Nat.or_zero]
    have hb1 : cond (hasS (cls op)) (2 ^ sn) 0 < 1024 := by cases hasS (cls op) <;> simp <;> omega
    have hb2 : (cond (hasS (cls op)) (2 ^ sn) 0 ||| cond (hasD (cls op) && !setsOp op) (2 ^ dn) 0) < 1024 := Nat.or_lt_two_pow (n := 10) hb1 (by cases hasD (cls op) && !setsOp op <;> simp <;> omega)
    have hbits : ((cond (hasS (cls op)) (2 ^ sn) 0 ||| cond (hasD (cls op) && !setsOp op) (2 ^ dn) 0) ||| cond (Nat.beq op 36) 1 0) ||| cond (Nat.beq op 35) (2 ^ (argsI i + 1).toNat - 2) 0 = bits op d s i := by
      unfold bits
      rw [hsn, hdn]
      simp only [Int.toNat_natCast]
    have hlt : bits op d s i < 2 ^ 63 := by
      rw [← hbits]
      have ha := argsI_le i
      have hp := pow9 (k := (argsI i + 1).toNat) (by omega)
      have : (((cond (hasS (cls op)) (2 ^ sn) 0 ||| cond (hasD (cls op) && !setsOp op) (2 ^ dn) 0) ||| cond (Nat.beq op 36) 1 0) ||| cond (Nat.beq op 35) (2 ^ (argsI i + 1).toNat - 2) 0) < 2 ^ 10 := Nat.or_lt_two_pow (Nat.or_lt_two_pow hb2 (by cases Nat.beq op 36 <;> simp)) (by cases Nat.beq op 35 <;> simp <;> omega)
      omega
    have hE3 := p17_3_eq C prog.meth (bits op d s i : Int) M1
    obtain ⟨M', v', q1, q2, q3, q4, q5⟩ := reads_loop hlt 10 0 M1 (none, 0, .known 0) [] (by omega) (OwnK.nil _ _) (fun _ => rfl) (by simp)
    have hf : fpS ((none, 0, .known 0) : SlV) = [] := rfl
    rw [hf] at q4 q5
    have hchain := k1.trans ((k2 _ hb1).trans (k3 _ hb2))
    rw [hbits] at hchain
    refine ⟨M', v', c17 (hchain.trans (hE3.trans q1)), u1.trans ⟨q3, fun x hx => q4.2 x hx (by simp)⟩, ?_, fun x hx => ?_⟩
    · rw [List.nil_append] at q2
      rw [nums_congr 10 0 (fun k _ hk => bits_test (op := op) (i := i) (d := d) (s := s) ⟨hd0.1, hsm.1⟩ ⟨hs0.1, hsm.2.1⟩ k (by omega))] at q2
      exact q2
    · rcases q5 x hx with h1 | h1
      · simp at h1
      · omega
end
end Go.Proofs.Ytpdelhcokcikaaa.M
