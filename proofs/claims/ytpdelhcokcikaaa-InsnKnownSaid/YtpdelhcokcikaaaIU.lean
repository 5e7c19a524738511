/- The package insn: which registers are read and written. -/
import Derived.Test.YtpdelhcokcikaaaIZ
set_option linter.unusedVariables false
set_option linter.unusedSimpArgs false
set_option linter.unnecessarySimpa false
set_option maxRecDepth 100000
namespace Go.Proofs.Ytpdelhcokcikaaa.M
open Go.Abs

theorem eqInts_loop {a : Option (Nat × Nat)} {l : Nat} {c : Cap} {a' : Option (Nat × Nat)} {c' : Cap} {M : Mem} {xs ys : List Int} (hx : M.ints .i64 a l c = some xs) (hy : M.ints .i64 a' l c' = some ys) (hl : l < 2 ^ 62) :
    ∀ (d i : Nat), i + d = l → (∀ j, j < i → xs[j]? = ys[j]?) → p21_1 C prog.meth a l c a' l c' i M = some (.bool (decide (xs = ys)), M) := by
  obtain ⟨lx, gx⟩ := ints_iff.1 hx
  obtain ⟨ly, gy⟩ := ints_iff.1 hy
  intro d
  induction d with
  | zero =>
    intro i hi hj
    rw [p21_1_eq]
    have : xs = ys := by
      apply List.ext_getElem?
      intro j
      by_cases h : j < l
      · exact hj j (by omega)
      · rw [List.getElem?_eq_none (by omega), List.getElem?_eq_none (by omega)]
    have h1 : ¬ ((i : Int) < (l : Int)) := by omega
    simp [h1, this]
  | succ d ih =>
    intro i hi hj
    rw [p21_1_eq]
    have h1 : (i : Int) < (l : Int) := by omega
    have h2 : Nat.blt i l = true := Mem.blt_iff.2 (by omega)
    obtain ⟨p, hp, hpv⟩ := gx i (by omega)
    obtain ⟨q, hq, hqv⟩ := gy i (by omega)
    rw [List.getElem?_eq_getElem (by omega)] at hpv hqv
    have hw : IntKind.wrap .i64 ((i : Int) + 1) = ((i + 1 : Nat) : Int) := by rw [wrap_i64 (by omega) (by omega)]; rfl
    simp only [h1, decide_true, cond_true, Int.natCast_nonneg, Int.toNat_natCast, h2, hp, hq, Option.bind_some, Nat.mul_one, hpv, hqv, hw]
    by_cases he : xs[i] = ys[i]
    · have : (xs[i] != ys[i]) = false := by simp [he]
      rw [this, cond_false]
      refine ih (i + 1) (by omega) (fun j hj' => ?_)
      by_cases e : j = i
      · subst e; rw [List.getElem?_eq_getElem (by omega), List.getElem?_eq_getElem (by omega), he]
      · exact hj j (by omega)
    · have : (xs[i] != ys[i]) = true := by simp [he]
      rw [this, cond_true]
      have hne : xs ≠ ys := fun h => he (by subst h; rfl)
      simp [hne]
theorem EqInts_C {a : Option (Nat × Nat)} {l : Nat} {c : Cap} {a' : Option (Nat × Nat)} {l' : Nat} {c' : Cap} {M : Mem} {xs ys : List Int} (hx : M.ints .i64 a l c = some xs) (hy : M.ints .i64 a' l' c' = some ys) (hl : l < 2 ^ 62) :
    C 21 [.sl a l c, .sl a' l' c'] M = some (.bool (decide (xs = ys)), M) := by
  refine c21 ?_
  rw [p21_0_eq]
  by_cases h : l = l'
  · subst h
    have : (((l : Nat) : Int) != (l : Int)) = false := by simp
    rw [this, cond_false]
    exact eqInts_loop hx hy hl l 0 (by omega) (fun j hj => by omega)
  · have : (((l : Nat) : Int) != (l' : Int)) = true := by simp; omega
    rw [this, cond_true]
    have hne : xs ≠ ys := fun e => h (by rw [← ints_length hx, ← ints_length hy, e])
    simp [hne]
section
variable {M : Mem} {op : Nat} {d s o i : Int}
/-- What is written. -/
def wrI (op : Nat) (d s o i : Int) : Int := cond (okB op d s o i) (cond (decide ((op : Int) ≤ 18)) d (cond ((op : Int) == 21) d 0)) 0
def wrB (op : Nat) (d s o i : Int) : Bool := cond (okB op d s o i) (cond (decide ((op : Int) ≤ 18)) true (cond ((op : Int) == 21) true ((op : Int) == 35))) false
theorem Writes_C (h : InsnR op d s o i) : ∃ M', C 19 [.agg [.int .u8 (op : Int), .int .u8 d, .int .u8 s, .int .i16 o, .int .i32 i]] M = some (.tup [.int .i64 (wrI op d s o i), .bool (wrB op d s o i)], M') ∧ M.Upto M' := by
  have hE := p19_0_eq C prog.meth op d s o i M
  obtain ⟨M1, e1, g1, u1, n1⟩ := alloc_at M ⟨[.int .u8 (op : Int), .int .u8 d, .int .u8 s, .int .i16 o, .int .i32 i], .fixed⟩
  rw [e1] at hE
  obtain ⟨Mc, c1, _⟩ := Check_B (M := Mem.empty) h
  have hd := h.d
  have hw : IntKind.wrap .i64 d = d := wrap_i64 (by omega) (by omega)
  simp only [ldI_at g1, Option.bind_some, List.getElem?_cons_zero, List.getElem?_cons_succ, int?_int, AVal.bool?, AVal.ptr?, AVal.sl?, AVal.tup?, AVal.agg?, AVal.ifc?, AVal.fn?, AVal.str?, List.head?_cons, List.tail_cons, List.isEmpty_nil, cond_true, cond_false, Option.isNone_some, Option.isNone_none, Bool.not_true, Bool.not_false, decide_true, decide_false, beq_self_eq_true, bne_self_eq_false, Int.reduceBEq, Int.reduceBNe, Int.cast_ofNat_Int, c1, p19_1_eq, hw] at hE
  refine ⟨M1, c19 (hE.trans ?_), u1⟩
  unfold wrI wrB errI
  cases okB op d s o i <;> cases decide ((op : Int) ≤ 18) <;> cases (op : Int) == 21 <;> rfl
theorem RWrites_C (h : InsnR op d s o i) : ∃ M', C 20 [.agg [.int .u8 (op : Int), .int .u8 d, .int .u8 s, .int .i16 o, .int .i32 i]] M = some (.tup [.int .i64 (wrI op d s o i), .bool (wrB op d s o i)], M') ∧ M.Upto M' := by
  have hE := p20_0_eq C prog.meth op d s o i M
  obtain ⟨M1, e1, g1, u1, n1⟩ := alloc_at M ⟨[.int .u8 (op : Int), .int .u8 d, .int .u8 s, .int .i16 o, .int .i32 i], .fixed⟩
  rw [e1] at hE
  obtain ⟨Mc, c1, _⟩ := RCheck_C (M := Mem.empty) h
  have hd := h.d
  have hw : IntKind.wrap .i64 d = d := wrap_i64 (by omega) (by omega)
  simp only [ldI_at g1, Option.bind_some, List.getElem?_cons_zero, List.getElem?_cons_succ, int?_int, AVal.bool?, AVal.ptr?, AVal.sl?, AVal.tup?, AVal.agg?, AVal.ifc?, AVal.fn?, AVal.str?, List.head?_cons, List.tail_cons, List.isEmpty_nil, cond_true, cond_false, Option.isNone_some, Option.isNone_none, Bool.not_true, Bool.not_false, decide_true, decide_false, beq_self_eq_true, bne_self_eq_false, Int.reduceBEq, Int.reduceBNe, Int.cast_ofNat_Int, c1, p20_1_eq, hw] at hE
  refine ⟨M1, c20 (hE.trans ?_), u1⟩
  unfold wrI wrB errI
  cases okB op d s o i <;> cases decide ((op : Int) ≤ 18) <;> cases (op : Int) == 21 <;> rfl

/-! Registers that are read. -/
def setsOp (op : Nat) : Bool := cond (Nat.beq op 1) true (cond (Nat.beq op 2) true (cond (Nat.ble 14 op && Nat.ble op 18) true (Nat.beq op 21)))
/-- Is a register read? -/
def rdB (op : Nat) (d s i : Int) (k : Nat) : Bool := (hasS (cls op) && decide (s = k)) || (hasD (cls op) && !setsOp op && decide (d = k)) || (Nat.beq op 36 && Nat.beq k 0) || (Nat.beq op 35 && decide (1 ≤ k) && decide ((k : Int) ≤ argsI i))
def nums (f : Nat → Bool) (i d : Nat) : List Int := ((List.range' i d).filter f).map (fun k : Nat => (k : Int))
def regs (op : Nat) (d s o i : Int) : List Int := cond (okB op d s o i) (nums (rdB op d s i) 0 10) []
theorem nums_succ (f : Nat → Bool) (i d : Nat) : nums f i (d + 1) = (if f i then [(i : Int)] else []) ++ nums f (i + 1) d := by
  unfold nums
  rw [List.range'_succ, List.filter_cons]
  cases f i <;> simp
theorem bitK {b i : Nat} (hb : b < 2 ^ 63) (hi : i < 64) : (IntKind.wrap .i64 ((BitVec.ofInt (IntKind.bits .i64) (Int.fdiv (b : Int) (2 ^ Nat.min (i : Int).toNat (IntKind.bits .i64))) &&& BitVec.ofInt (IntKind.bits .i64) 1).toNat) != 0) = b.testBit i := by
  have e1 : Nat.min (i : Int).toNat (IntKind.bits .i64) = i := by
    rw [Int.toNat_natCast, show IntKind.bits .i64 = 64 from rfl]; exact Nat.min_eq_left (by omega)
  have e2 : Int.fdiv (b : Int) (2 ^ i) = ((b / 2 ^ i : Nat) : Int) := by
    rw [Int.fdiv_eq_ediv_of_nonneg _ (Int.le_of_lt (Int.pow_pos (by omega)))]
    simp
  have hlt : b / 2 ^ i < 2 ^ 63 := Nat.lt_of_le_of_lt (Nat.div_le_self _ _) hb
  have e3 : (BitVec.ofInt (IntKind.bits .i64) ((b / 2 ^ i : Nat) : Int) &&& BitVec.ofInt (IntKind.bits .i64) 1).toNat = b / 2 ^ i % 2 := by
    have h1 := ofInt_natI 1 (by omega)
    rw [show ((1 : Nat) : Int) = 1 from rfl] at h1
    rw [BitVec.toNat_and, ofInt_natI _ (by omega), h1]
    exact Nat.and_one_is_mod _
  rw [e1, e2, e3, Nat.testBit_eq_decide_div_mod_eq, wrap_i64 (by omega) (by omega)]
  have : b / 2 ^ i % 2 = 0 ∨ b / 2 ^ i % 2 = 1 := by omega
  rcases this with h | h <;> simp [h]
theorem reads_loop {b : Nat} (hb : b < 2 ^ 63) : ∀ (d i : Nat) (M : Mem) (v : SlV) (xs : List Int), i + d = 10 → OwnK .i64 M v xs → (v.2.1 = 0 → v.2.2 = .known 0) → v.2.1 ≤ i →
    ∃ M' v', p17_4 C prog.meth (b : Int) v.1 v.2.1 v.2.2 i M = some (.sl v'.1 v'.2.1 v'.2.2, M') ∧ OwnK .i64 M' v' (xs ++ nums b.testBit i d) ∧ M.n ≤ M'.n ∧ Mem.But (· ∈ fpS v) M M' ∧ (∀ o ∈ fpS v', o ∈ fpS v ∨ M.n ≤ o) := by
  intro d
  induction d with
  | zero =>
    intro i M v xs hi ho hz hv
    have hE := p17_4_eq C prog.meth (b : Int) v.1 v.2.1 v.2.2 i M
    have h1 : ¬ ((i : Int) < 10) := by omega
    simp only [h1, decide_false, cond_false] at hE
    exact ⟨M, v, hE, by simpa [nums] using ho, Nat.le_refl _, Mem.But.refl _ _, fun o h => .inl h⟩
  | succ d ih =>
    intro i M v xs hi ho hz hv
    have hE := p17_4_eq C prog.meth (b : Int) v.1 v.2.1 v.2.2 i M
    have h1 : ((i : Int) < 10) := by omega
    have h0 : ¬ ((i : Int) < 0) := by omega
    have hw : IntKind.wrap .i64 ((i : Int) + 1) = ((i + 1 : Nat) : Int) := by rw [wrap_i64 (by omega) (by omega)]; rfl
    rw [bitK hb (by omega)] at hE
    simp only [h1, h0, decide_true, decide_false, cond_true, cond_false, hw] at hE
    rw [nums_succ]
    cases hbit : b.testBit i with
    | false =>
      rw [hbit, cond_false] at hE
      obtain ⟨M', v', q1, q2, q3, q4, q5⟩ := ih (i + 1) M v xs (by omega) ho hz (by omega)
      exact ⟨M', v', hE.trans q1, by simpa using q2, q3, q4, q5⟩
    | true =>
      rw [hbit, cond_true] at hE
      obtain ⟨M2, k1, k2, k3, k4⟩ := ho.push (bytes := 8) (i : Int) hz (by omega)
      simp only [k1] at hE
      obtain ⟨M', v', q1, q2, q3, q4, q5⟩ := ih (i + 1) M2 (some (M.n + 1, 0), v.2.1 + 1, .unk 0) _ (by omega) k2 (fun h => by simp at h) (by simp; omega)
      have hf : fpS ((some (M.n + 1, 0), v.2.1 + 1, .unk 0) : SlV) = [M.n + 1] := fpS_own rfl (by simp)
      rw [hf] at q4 q5
      refine ⟨M', v', hE.trans q1, by simpa using q2, by omega, ⟨by omega, fun q hq hn => ?_⟩, fun q hq => ?_⟩
      · rw [q4.2 q (by omega) (by simp; omega), k4.2 q hq hn]
      · rcases q5 q hq with h | h
        · simp at h; omega
        · omega
theorem or_natI (a b : Nat) (ha : a < 2 ^ 63) (hb : b < 2 ^ 63) : IntKind.wrap .i64 (((BitVec.ofInt (IntKind.bits .i64) (a : Int) ||| BitVec.ofInt (IntKind.bits .i64) (b : Int)).toNat : Nat) : Int) = ((a ||| b : Nat) : Int) := by
  have hlt : a ||| b < 2 ^ 63 := Nat.or_lt_two_pow ha hb
  rw [BitVec.toNat_or, ofInt_natI a (by omega), ofInt_natI b (by omega), wrap_i64 (by omega) (by omega)]
theorem shlI {k : Nat} (hk : k ≤ 9) : IntKind.wrap .i64 (1 * 2 ^ Nat.min (k : Int).toNat (IntKind.bits .i64)) = ((2 ^ k : Nat) : Int) := by
  have e1 : Nat.min (k : Int).toNat (IntKind.bits .i64) = k := by
    rw [Int.toNat_natCast, show IntKind.bits .i64 = 64 from rfl]; exact Nat.min_eq_left (by omega)
  have : 2 ^ k ≤ 2 ^ 9 := Nat.pow_le_pow_right (by omega) hk
  rw [e1, Int.one_mul, show (2 : Int) ^ k = ((2 ^ k : Nat) : Int) by simp]
  generalize 2 ^ k = x at this
  exact wrap_i64 (by omega) (by omega)
/-- The bits. -/
def bits (op : Nat) (d s i : Int) : Nat := ((cond (hasS (cls op)) (2 ^ s.toNat) 0 ||| cond (hasD (cls op) && !setsOp op) (2 ^ d.toNat) 0) ||| cond (Nat.beq op 36) 1 0) ||| cond (Nat.beq op 35) (2 ^ (argsI i + 1).toNat - 2) 0
theorem argsI_le (i : Int) : 0 ≤ argsI i ∧ argsI i ≤ 3 := by
  unfold argsI
  cases (i == 1) <;> cases (i == 8) <;> cases (i == 2) <;> cases (i == 5) <;> cases decide (i ≥ 16) <;> cases decide (i < 24) <;> cases decide (i ≥ 3) <;> cases decide (i ≤ 7) <;> decide
theorem bits_test {d s : Int} (hd : 0 ≤ d ∧ d ≤ 9) (hs : 0 ≤ s ∧ s ≤ 9) (k : Nat) (hk : k < 10) : (bits op d s i).testBit k = rdB op d s i k := by
  unfold bits rdB
  rw [Nat.testBit_or, Nat.testBit_or, Nat.testBit_or]
  congr 1
  · congr 1
    · congr 1
      · cases hasS (cls op)
        · simp
        · simp only [cond_true, Nat.testBit_two_pow, Bool.true_and]
          by_cases e : s.toNat = k
          · rw [decide_eq_true e]; exact (decide_eq_true (by omega)).symm
          · rw [decide_eq_false e]; exact (decide_eq_false (by omega)).symm
      · cases hasD (cls op) && !setsOp op
        · simp
        · simp only [cond_true, Nat.testBit_two_pow, Bool.true_and]
          by_cases e : d.toNat = k
          · rw [decide_eq_true e]; exact (decide_eq_true (by omega)).symm
          · rw [decide_eq_false e]; exact (decide_eq_false (by omega)).symm
    · cases Nat.beq op 36
      · simp
      · simp only [cond_true, Bool.true_and]
        have : k = 0 ∨ k = 1 ∨ k = 2 ∨ k = 3 ∨ k = 4 ∨ k = 5 ∨ k = 6 ∨ k = 7 ∨ k = 8 ∨ k = 9 := by omega
        rcases this with rfl | rfl | rfl | rfl | rfl | rfl | rfl | rfl | rfl | rfl <;> decide
  · cases Nat.beq op 35
    · simp
    · simp only [cond_true, Bool.true_and]
      have ha := argsI_le i
      generalize argsI i = a at ha
      have h1 : a = 0 ∨ a = 1 ∨ a = 2 ∨ a = 3 := by omega
      have h2 : k = 0 ∨ k = 1 ∨ k = 2 ∨ k = 3 ∨ k = 4 ∨ k = 5 ∨ k = 6 ∨ k = 7 ∨ k = 8 ∨ k = 9 := by omega
      rcases h1 with rfl | rfl | rfl | rfl <;> rcases h2 with rfl | rfl | rfl | rfl | rfl | rfl | rfl | rfl | rfl | rfl <;> decide
theorem nums_congr {f g : Nat → Bool} : ∀ (d i : Nat), (∀ k, i ≤ k → k < i + d → f k = g k) → nums f i d = nums g i d
  | 0, i, _ => rfl
  | d + 1, i, h => by
    rw [nums_succ, nums_succ, h i (Nat.le_refl _) (by omega), nums_congr d (i + 1) (fun k a b => h k (by omega) (by omega))]
end
end Go.Proofs.Ytpdelhcokcikaaa.M
