import Derived.Test.YtidofnpfeibbfaaIY
import Derived.Test.YtidofnpfeibbfaaXLib7
set_option linter.unusedVariables false
set_option linter.unusedSimpArgs false
set_option linter.unnecessarySimpa false
set_option maxRecDepth 100000
namespace Go.Proofs.Ytidofnpfeibbfaa.M
open Go.Abs
theorem okB_small {op : Nat} {d s o i : Int} (h : okB op d s o i = true) : d ≤ 9 ∧ s ≤ 9 ∧ op ≤ 36 ∧ op ≠ 0 := by
  unfold okB okS at h
  by_cases hop : op ≤ 36
  rotate_left
  · rw [(rowI_big hop).2] at h; simp at h
  cases hc : Nat.beq (cls op) 0 with
  | true => rw [hc] at h; simp at h
  | false =>
    rw [hc] at h
    by_cases hd : d > 9
    · simp [hd] at h
    · by_cases hs : s > 9
      · simp [hd, hs] at h
      · refine ⟨by omega, by omega, hop, fun e => ?_⟩
        subst e
        cases hc
section
variable {M : Mem} {op : Nat} {d s o i : Int}
def setsOp (op : Nat) : Bool := cond (Nat.beq op 1) true (cond (Nat.beq op 2) true (cond (Nat.ble 14 op && Nat.ble op 18) true (Nat.beq op 21)))
def rdB (op : Nat) (d s i : Int) (k : Nat) : Bool := (hasS (cls op) && decide (s = k)) || (hasD (cls op) && !setsOp op && decide (d = k)) || (Nat.beq op 36 && Nat.beq k 0) || (Nat.beq op 35 && decide (1 ≤ k) && decide ((k : Int) ≤ argsI i))
def nums (f : Nat → Bool) (i d : Nat) : List Int := ((List.range' i d).filter f).map (fun k : Nat => (k : Int))
def regs (op : Nat) (d s o i : Int) : List Int := cond (okB op d s o i) (nums (rdB op d s i) 0 10) []
theorem nums_succ (f : Nat → Bool) (i d : Nat) : nums f i (d + 1) = (if f i then [(i : Int)] else []) ++ nums f (i + 1) d := by
  unfold nums
  rw [List.range'_succ, List.filter_cons]
  cases f i <;> simp
theorem bitK {b i : Nat} (hb : b < 2 ^ 63) (hi : i < 64) : (IntKind.wrap .i64 ((BitVec.ofInt (IntKind.bits .i64) (Int.fdiv (b : Int) (2 ^ Nat.min (i : Int).toNat (IntKind.bits .i64))) &&& BitVec.ofInt (IntKind.bits .i64) 1).toNat) != 0) = b.testBit i := by
  have e1 : Nat.min (i : Int).toNat (IntKind.bits .i64) = i := by
    rw [Int.toNat_natCast, show IntKind.bits .i64 = 64 from rfl]; exact Nat.min_eq_left (by omega)
  have e2 : Int.fdiv (b : Int) (2 ^ i) = ((b / 2 ^ i : Nat) : Int) := by
    rw [Int.fdiv_eq_ediv_of_nonneg _ (Int.le_of_lt (Int.pow_pos (by omega)))]
    simp
  have hlt : b / 2 ^ i < 2 ^ 63 := Nat.lt_of_le_of_lt (Nat.div_le_self _ _) hb
  have e3 : (BitVec.ofInt (IntKind.bits .i64) ((b / 2 ^ i : Nat) : Int) &&& BitVec.ofInt (IntKind.bits .i64) 1).toNat = b / 2 ^ i % 2 := by
    have h1 := ofInt_natI 1 (by omega)
    rw [show ((1 : Nat) : Int) = 1 from rfl] at h1
    rw [BitVec.toNat_and, ofInt_natI _ (by omega), h1]
    exact Nat.and_one_is_mod _
  rw [e1, e2, e3, Nat.testBit_eq_decide_div_mod_eq, wrap_i64 (by omega) (by omega)]
  have : b / 2 ^ i % 2 = 0 ∨ b / 2 ^ i % 2 = 1 := by omega
  rcases this with h | h <;> simp [h]
theorem reads_loop {b : Nat} (hb : b < 2 ^ 63) : ∀ (d i : Nat) (M : Mem) (v : SlV) (xs : List Int), i + d = 10 → OwnK .i64 M v xs → (v.2.1 = 0 → v.2.2 = .known 0) → v.2.1 ≤ i →
    ∃ M' v', p36_4 C prog.meth (b : Int) v.1 v.2.1 v.2.2 i M = some (.sl v'.1 v'.2.1 v'.2.2, M') ∧ OwnK .i64 M' v' (xs ++ nums b.testBit i d) ∧ M.n ≤ M'.n ∧ Mem.But (· ∈ fpS v) M M' ∧ (∀ o ∈ fpS v', o ∈ fpS v ∨ M.n ≤ o) := by
  intro d
  induction d with
  | zero =>
    intro i M v xs hi ho hz hv
    have hE := p36_4_eq C prog.meth (b : Int) v.1 v.2.1 v.2.2 i M
    have h1 : ¬ ((i : Int) < 10) := by omega
    simp only [h1, decide_false, cond_false] at hE
    exact ⟨M, v, hE, by simpa [nums] using ho, Nat.le_refl _, Mem.But.refl _ _, fun o h => .inl h⟩
  | succ d ih =>
    intro i M v xs hi ho hz hv
    have hE := p36_4_eq C prog.meth (b : Int) v.1 v.2.1 v.2.2 i M
    have h1 : ((i : Int) < 10) := by omega
    have h0 : ¬ ((i : Int) < 0) := by omega
    have hw : IntKind.wrap .i64 ((i : Int) + 1) = ((i + 1 : Nat) : Int) := by rw [wrap_i64 (by omega) (by omega)]; rfl
    rw [bitK hb (by omega)] at hE
    simp only [h1, h0, decide_true, decide_false, cond_true, cond_false, hw] at hE
    rw [nums_succ]
    cases hbit : b.testBit i with
    | false =>
      rw [hbit, cond_false] at hE
      obtain ⟨M', v', q1, q2, q3, q4, q5⟩ := ih (i + 1) M v xs (by omega) ho hz (by omega)
      exact ⟨M', v', hE.trans q1, by simpa using q2, q3, q4, q5⟩
    | true =>
      rw [hbit, cond_true] at hE
      obtain ⟨M2, k1, k2, k3, k4⟩ := ho.push (bytes := 8) (i : Int) hz (by omega)
      simp only [k1] at hE
      obtain ⟨M', v', q1, q2, q3, q4, q5⟩ := ih (i + 1) M2 (some (M.n + 1, 0), v.2.1 + 1, .unk 0) _ (by omega) k2 (fun h => by simp at h) (by simp; omega)
      have hf : fpS ((some (M.n + 1, 0), v.2.1 + 1, .unk 0) : SlV) = [M.n + 1] := fpS_own rfl (by simp)
      rw [hf] at q4 q5
      refine ⟨M', v', hE.trans q1, by simpa using q2, by omega, ⟨by omega, fun q hq hn => ?_⟩, fun q hq => ?_⟩
      · rw [q4.2 q (by omega) (by simp; omega), k4.2 q hq hn]
      · rcases q5 q hq with h | h
        · simp at h; omega
        · omega
theorem or_natI (a b : Nat) (ha : a < 2 ^ 63) (hb : b < 2 ^ 63) : IntKind.wrap .i64 (((BitVec.ofInt (IntKind.bits .i64) (a : Int) ||| BitVec.ofInt (IntKind.bits .i64) (b : Int)).toNat : Nat) : Int) = ((a ||| b : Nat) : Int) := by
  have hlt : a ||| b < 2 ^ 63 := Nat.or_lt_two_pow ha hb
  rw [BitVec.toNat_or, ofInt_natI a (by omega), ofInt_natI b (by omega), wrap_i64 (by omega) (by omega)]
theorem shlI {k : Nat} (hk : k ≤ 9) : IntKind.wrap .i64 (1 * 2 ^ Nat.min (k : Int).toNat (IntKind.bits .i64)) = ((2 ^ k : Nat) : Int) := by
  have e1 : Nat.min (k : Int).toNat (IntKind.bits .i64) = k := by
    rw [Int.toNat_natCast, show IntKind.bits .i64 = 64 from rfl]; exact Nat.min_eq_left (by omega)
  have : 2 ^ k ≤ 2 ^ 9 := Nat.pow_le_pow_right (by omega) hk
  rw [e1, Int.one_mul, show (2 : Int) ^ k = ((2 ^ k : Nat) : Int) by simp]
  generalize 2 ^ k = x at this
  exact wrap_i64 (by omega) (by omega)
def bits (op : Nat) (d s i : Int) : Nat := ((cond (hasS (cls op)) (2 ^ s.toNat) 0 ||| cond (hasD (cls op) && !setsOp op) (2 ^ d.toNat) 0) ||| cond (Nat.beq op 36) 1 0) ||| cond (Nat.beq op 35) (2 ^ (argsI i + 1).toNat - 2) 0
theorem argsI_le (i : Int) : 0 ≤ argsI i ∧ argsI i ≤ 3 := by
  unfold argsI
  cases (i == 1) <;> cases (i == 8) <;> cases (i == 2) <;> cases (i == 5) <;> cases decide (i ≥ 16) <;> cases decide (i < 24) <;> cases decide (i ≥ 3) <;> cases decide (i ≤ 7) <;> decide
theorem bits_test {d s : Int} (hd : 0 ≤ d ∧ d ≤ 9) (hs : 0 ≤ s ∧ s ≤ 9) (k : Nat) (hk : k < 10) : (bits op d s i).testBit k = rdB op d s i k := by
  unfold bits rdB
  rw [Nat.testBit_or, Nat.testBit_or, Nat.testBit_or]
  congr 1
  · congr 1
    · congr 1
      · cases hasS (cls op)
        · simp
        · simp only [cond_true, Nat.testBit_two_pow, Bool.true_and]
          by_cases e : s.toNat = k
          · rw [decide_eq_true e]; exact (decide_eq_true (by omega)).symm
          · rw [decide_eq_false e]; exact (decide_eq_false (by omega)).symm
      · cases hasD (cls op) && !setsOp op
        · simp
        · simp only [cond_true, Nat.testBit_two_pow, Bool.true_and]
          by_cases e : d.toNat = k
          · rw [decide_eq_true e]; exact (decide_eq_true (by omega)).symm
          · rw [decide_eq_false e]; exact (decide_eq_false (by omega)).symm
    · cases Nat.beq op 36
      · simp
      · simp only [cond_true, Bool.true_and]
        have : k = 0 ∨ k = 1 ∨ k = 2 ∨ k = 3 ∨ k = 4 ∨ k = 5 ∨ k = 6 ∨ k = 7 ∨ k = 8 ∨ k = 9 := by omega
        rcases this with rfl | rfl | rfl | rfl | rfl | rfl | rfl | rfl | rfl | rfl <;> decide
  · cases Nat.beq op 35
    · simp
    · simp only [cond_true, Bool.true_and]
      have ha := argsI_le i
      generalize argsI i = a at ha
      have h1 : a = 0 ∨ a = 1 ∨ a = 2 ∨ a = 3 := by omega
      have h2 : k = 0 ∨ k = 1 ∨ k = 2 ∨ k = 3 ∨ k = 4 ∨ k = 5 ∨ k = 6 ∨ k = 7 ∨ k = 8 ∨ k = 9 := by omega
      rcases h1 with rfl | rfl | rfl | rfl <;> rcases h2 with rfl | rfl | rfl | rfl | rfl | rfl | rfl | rfl | rfl | rfl <;> decide
theorem nums_congr {f g : Nat → Bool} : ∀ (d i : Nat), (∀ k, i ≤ k → k < i + d → f k = g k) → nums f i d = nums g i d
  | 0, i, _ => rfl
  | d + 1, i, h => by
    rw [nums_succ, nums_succ, h i (Nat.le_refl _) (by omega), nums_congr d (i + 1) (fun k a b => h k (by omega) (by omega))]
end
theorem rowBits {op : Nat} (h : op ≤ 36) : (bt (rowI op) 2 != 0) = hasS (cls op) ∧ (bt (rowI op) 1 != 0) = hasD (cls op) ∧ (bt (rowI op) 1024 == 0) = !setsOp op := by
  rcases ops37 h with rfl | rfl | rfl | rfl | rfl | rfl | rfl | rfl | rfl | rfl | rfl | rfl | rfl | rfl | rfl | rfl | rfl | rfl | rfl | rfl | rfl | rfl | rfl | rfl | rfl | rfl | rfl | rfl | rfl | rfl | rfl | rfl | rfl | rfl | rfl | rfl | rfl <;> exact ⟨rfl, rfl, rfl⟩
theorem beqN (a b : Nat) : ((a : Int) == (b : Int)) = Nat.beq a b := by
  by_cases h : a = b
  · subst h; simp
  · rw [Abs.beq_false h]; simp; omega
theorem pow9 {k : Nat} (h : k ≤ 9) : 2 ^ k < 1024 := Nat.lt_of_le_of_lt (Nat.pow_le_pow_right (by omega) h) (by omega)
section
variable {M : Mem} {op : Nat} {d s o i : Int}
theorem Reads_C (h : InsnR op d s o i) : ∃ M' v, C 36 [.agg [.int .u8 (op : Int), .int .u8 d, .int .u8 s, .int .i16 o, .int .i32 i]] M = some (.sl v.1 v.2.1 v.2.2, M') ∧ M.Upto M' ∧ OwnK .i64 M' v (regs op d s o i) ∧ (∀ o ∈ fpS v, M.n ≤ o) := by
  have hE := p36_0_eq C prog.meth op d s o i M
  obtain ⟨M1, e1, g1, u1, n1⟩ := alloc_at M ⟨[.int .u8 (op : Int), .int .u8 d, .int .u8 s, .int .i16 o, .int .i32 i], .fixed⟩
  rw [e1] at hE
  obtain ⟨Mc, c1, _⟩ := Check_B (M := Mem.empty) h
  simp only [ldI_at g1, int?_int, rvs, Int.reduceBEq, Int.reduceBNe, Int.cast_ofNat_Int, c1] at hE
  unfold regs
  cases hok : okB op d s o i with
  | false =>
    have e0 : (errI false != 0) = true := rfl
    rw [hok] at hE
    simp only [e0, cond_true] at hE
    exact ⟨M1, (none, 0, .known 0), c36 hE, u1, OwnK.nil _ _, by simp [fpS]⟩
  | true =>
    have e0 : (errI true != 0) = false := rfl
    rw [hok] at hE
    have hsm := okB_small hok
    have hd0 := h.d
    have hs0 := h.s
    have hrb := rowBits hsm.2.2.1
    simp only [e0, row_C, int?_int, rvs, Int.reduceBEq, Int.reduceBNe, Int.cast_ofNat_Int] at hE
    have e : ∀ k, IntKind.wrap .i64 ((BitVec.ofInt (IntKind.bits .i64) (rowI op) &&& BitVec.ofInt (IntKind.bits .i64) k).toNat) = bt (rowI op) k := fun k => rfl
    rw [e, hrb.1] at hE
    obtain ⟨sn, hsn⟩ : ∃ n : Nat, s = (n : Int) := ⟨s.toNat, by omega⟩
    obtain ⟨dn, hdn⟩ : ∃ n : Nat, d = (n : Int) := ⟨d.toNat, by omega⟩
    have hs2 := pow9 (k := sn) (by omega)
    have hd2 := pow9 (k := dn) (by omega)
    have k1 : p36_0 C prog.meth op d s o i M = p36_1 C prog.meth M.n (rowI op) ((cond (hasS (cls op)) (2 ^ sn) 0 : Nat) : Int) M1 := by
      refine hE.trans ?_
      have h1 := or_natI 0 (2 ^ sn) (by omega) (by omega)
      rw [Nat.zero_or, show ((0 : Nat) : Int) = 0 from rfl, ← shlI (k := sn) (by omega)] at h1
      have h2 : ¬ ((sn : Int) < 0) := by omega
      rw [hsn]
      simp only [h2, decide_false, cond_false, h1]
      rw [shlI (by omega)]
      cases hasS (cls op) <;> rfl
    have k2 : ∀ b : Nat, b < 1024 → p36_1 C prog.meth M.n (rowI op) (b : Int) M1 = p36_2 C prog.meth M.n ((b ||| cond (hasD (cls op) && !setsOp op) (2 ^ dn) 0 : Nat) : Int) M1 := by
      intro b hb
      have hE := p36_1_eq C prog.meth M.n (rowI op) (b : Int) M1
      rw [e, e, hrb.2.1, hrb.2.2] at hE
      refine hE.trans ?_
      have h1 := or_natI b (2 ^ dn) (by omega) (by omega)
      rw [← shlI (k := dn) (by omega)] at h1
      have h2 : ¬ ((dn : Int) < 0) := by omega
      rw [hdn] at g1
      simp only [ldI_at g1, int?_int, rvs, Int.reduceBEq, Int.reduceBNe, Int.cast_ofNat_Int, h2, h1]
      cases hasD (cls op) <;> cases setsOp op <;> simp
    have k3 : ∀ b : Nat, b < 1024 → p36_2 C prog.meth M.n (b : Int) M1 = p36_3 C prog.meth (((b ||| cond (Nat.beq op 36) 1 0) ||| cond (Nat.beq op 35) (2 ^ (argsI i + 1).toNat - 2) 0 : Nat) : Int) M1 := by
      intro b hb
      have hE := p36_2_eq C prog.meth M.n (b : Int) M1
      have b36 : ((op : Int) == 36) = Nat.beq op 36 := beqN op 36
      have b35 : ((op : Int) == 35) = Nat.beq op 35 := beqN op 35
      have ha := argsI_le i
      have hw : IntKind.wrap .i64 (argsI i + 1) = argsI i + 1 := wrap_i64 (by omega) (by omega)
      have h2 : ¬ (argsI i + 1 < 0) := by omega
      simp only [ldI_at g1, int?_int, rvs, Int.reduceBEq, Int.reduceBNe, Int.cast_ofNat_Int, args_C, b36, b35, hw, h2] at hE
      refine hE.trans ?_
      cases h36 : Nat.beq op 36 with
      | true =>
        have : op = 36 := Nat.eq_of_beq_eq_true h36
        subst this
        have h1 := or_natI b 1 (by omega) (by omega)
        rw [show ((1 : Nat) : Int) = 1 from rfl] at h1
        have e35 : Nat.beq 36 35 = false := rfl
        simp only [cond_true, h1, e35, cond_false, Nat.or_zero]
      | false =>
        cases h35 : Nat.beq op 35 with
        | false => simp
        | true =>
          obtain ⟨an, han⟩ : ∃ n : Nat, argsI i + 1 = (n : Int) := ⟨(argsI i + 1).toNat, by omega⟩
          have hp := pow9 (k := an) (by omega)
          have hp1 : 2 ≤ 2 ^ an := by
            have := Nat.pow_le_pow_right (n := 2) (by omega) (show 1 ≤ an by omega)
            omega
          have h3 : IntKind.wrap .i64 (IntKind.wrap .i64 (1 * 2 ^ Nat.min (an : Int).toNat (IntKind.bits .i64)) - 2) = ((2 ^ an - 2 : Nat) : Int) := by
            rw [shlI (by omega)]
            generalize 2 ^ an = x at hp hp1
            rw [wrap_i64 (by omega) (by omega)]; omega
          have h1 := or_natI b (2 ^ an - 2) (by omega) (by omega)
          rw [han, h3]
          simp only [cond_true, cond_false, h1, Int.toNat_natCast, Nat.or_zero]
    have hb1 : cond (hasS (cls op)) (2 ^ sn) 0 < 1024 := by cases hasS (cls op) <;> simp <;> omega
    have hb2 : (cond (hasS (cls op)) (2 ^ sn) 0 ||| cond (hasD (cls op) && !setsOp op) (2 ^ dn) 0) < 1024 := Nat.or_lt_two_pow (n := 10) hb1 (by cases hasD (cls op) && !setsOp op <;> simp <;> omega)
    have hbits : ((cond (hasS (cls op)) (2 ^ sn) 0 ||| cond (hasD (cls op) && !setsOp op) (2 ^ dn) 0) ||| cond (Nat.beq op 36) 1 0) ||| cond (Nat.beq op 35) (2 ^ (argsI i + 1).toNat - 2) 0 = bits op d s i := by
      unfold bits
      rw [hsn, hdn]
      simp only [Int.toNat_natCast]
    have hlt : bits op d s i < 2 ^ 63 := by
      rw [← hbits]
      have ha := argsI_le i
      have hp := pow9 (k := (argsI i + 1).toNat) (by omega)
      have : (((cond (hasS (cls op)) (2 ^ sn) 0 ||| cond (hasD (cls op) && !setsOp op) (2 ^ dn) 0) ||| cond (Nat.beq op 36) 1 0) ||| cond (Nat.beq op 35) (2 ^ (argsI i + 1).toNat - 2) 0) < 2 ^ 10 := Nat.or_lt_two_pow (Nat.or_lt_two_pow hb2 (by cases Nat.beq op 36 <;> simp)) (by cases Nat.beq op 35 <;> simp <;> omega)
      omega
    have hE3 := p36_3_eq C prog.meth (bits op d s i : Int) M1
    obtain ⟨M', v', q1, q2, q3, q4, q5⟩ := reads_loop hlt 10 0 M1 (none, 0, .known 0) [] (by omega) (OwnK.nil _ _) (fun _ => rfl) (by simp)
    have hf : fpS ((none, 0, .known 0) : SlV) = [] := rfl
    rw [hf] at q4 q5
    have hchain := k1.trans ((k2 _ hb1).trans (k3 _ hb2))
    rw [hbits] at hchain
    refine ⟨M', v', c36 (hchain.trans (hE3.trans q1)), u1.trans ⟨q3, fun x hx => q4.2 x hx (by simp)⟩, ?_, fun x hx => ?_⟩
    · rw [List.nil_append] at q2
      rw [nums_congr 10 0 (fun k _ hk => bits_test (op := op) (i := i) (d := d) (s := s) ⟨hd0.1, hsm.1⟩ ⟨hs0.1, hsm.2.1⟩ k (by omega))] at q2
      exact q2
    · rcases q5 x hx with h1 | h1
      · simp at h1
      · omega
end
def argsR (n : Int) : Int := cond (n == 1) 2 (cond (n == 8) 2 (cond (n == 2) 3 (cond (n == 5) 3 (cond (decide (n ≥ 16)) 3 1))))
theorem argsR_le (i : Int) : 1 ≤ argsR i ∧ argsR i ≤ 3 := by
  unfold argsR
  cases (i == 1) <;> cases (i == 8) <;> cases (i == 2) <;> cases (i == 5) <;> cases decide (i ≥ 16) <;> decide
section
variable {M : Mem} {op : Nat} {d s o i : Int}
theorem args_same {i : Int} (h : hpR i = true) : argsR i = argsI i := by
  unfold hpR wi at h
  unfold argsR argsI
  by_cases h1 : i = 1
  · subst h1; rfl
  by_cases h8 : i = 8
  · subst h8; rfl
  by_cases h2 : i = 2
  · subst h2; rfl
  by_cases h5 : i = 5
  · subst h5; rfl
  have e1 : (i == 1) = false := by simpa using h1
  have e8 : (i == 8) = false := by simpa using h8
  have e2 : (i == 2) = false := by simpa using h2
  have e5 : (i == 5) = false := by simpa using h5
  simp only [e1, e8, e2, e5, cond_false]
  by_cases h16 : i ≥ 16
  · have h24 : i < 24 := by
      have g1 : i ≥ 1 := by omega
      have g2 : ¬ i ≤ 8 := by omega
      simp [g1, g2, h16] at h
      omega
    simp [h16, h24]
  · have g3 : i ≥ 3 ∧ i ≤ 7 := by
      by_cases g1 : i ≥ 1
      · by_cases g2 : i ≤ 8
        · omega
        · simp [g1, g2, h16] at h
      · simp [g1, h16] at h
    simp [h16, g3.1, g3.2]
end
end Go.Proofs.Ytidofnpfeibbfaa.M
