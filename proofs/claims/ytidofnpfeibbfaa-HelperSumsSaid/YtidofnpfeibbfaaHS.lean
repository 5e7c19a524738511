/- The package sums; hands, and HelpFix. -/
import Derived.Test.YtidofnpfeibbfaaSM
import Derived.Test.YtidofnpfeibbfaaHP
set_option linter.unusedVariables false
set_option linter.unusedSimpArgs false
set_option linter.unnecessarySimpa false
set_option maxRecDepth 100000
namespace Go.Proofs.Ytidofnpfeibbfaa.M
open Go.Abs

section
variable {M : Mem}
theorem fold_C : ∀ (N n : Nat) (M : Mem), n ≤ N → n < 2 ^ 62 → ∃ r : Nat, p48_1 C prog.meth (n : Int) M = some (.int .u16 (r : Int), M) ∧ r ≤ 65535 ∧ r % 65535 = n % 65535 := by
  intro N
  induction N with
  | zero =>
    intro n M hN hn
    have hE := p48_1_eq C prog.meth (n : Int) M
    have q : ¬ ((n : Int) > 65535) := by omega
    have w : IntKind.wrap .u16 (n : Int) = (n : Int) := by rw [wu16]; omega
    simp only [q, decide_false, cond_false, w] at hE
    exact ⟨n, hE, by omega, rfl⟩
  | succ N ih =>
    intro n M hN hn
    have hE := p48_1_eq C prog.meth (n : Int) M
    by_cases q : (n : Int) > 65535
    · have e1 : Int.fdiv (n : Int) (2 ^ Nat.min 16 (IntKind.bits .u64)) = ((n / 65536 : Nat) : Int) := by
        have : (2 : Int) ^ Nat.min 16 (IntKind.bits .u64) = 65536 := by decide
        rw [this, Int.fdiv_eq_ediv_of_nonneg _ (by omega)]; omega
      have e2 : (BitVec.ofInt (IntKind.bits .u64) (n : Int) &&& BitVec.ofInt (IntKind.bits .u64) 65535).toNat = n % 65536 := by
        have := and_nat n 65535 (by omega) (by omega)
        rw [show (65535 : Int) = ((65535 : Nat) : Int) from rfl, this]
        exact Nat.and_two_pow_sub_one_eq_mod n 16
      have e3 : IntKind.wrap .u64 (((n / 65536 : Nat) : Int) + IntKind.wrap .u64 ((n % 65536 : Nat) : Int)) = ((n / 65536 + n % 65536 : Nat) : Int) := by
        rw [wu64, wu64]; omega
      simp only [q, decide_true, cond_true, e1, e2, e3] at hE
      obtain ⟨r, r1, r2, r3⟩ := ih (n / 65536 + n % 65536) M (by omega) (by omega)
      exact ⟨r, hE.trans r1, r2, by rw [r3, fold_mod]⟩
    · have w : IntKind.wrap .u16 (n : Int) = (n : Int) := by rw [wu16]; omega
      simp only [q, decide_false, cond_false, w] at hE
      exact ⟨n, hE, by omega, rfl⟩
theorem Fold_C {n : Nat} (hn : n < 2 ^ 62) : ∃ r : Nat, C 48 [.int .u64 (n : Int)] M = some (.int .u16 (r : Int), M) ∧ r ≤ 65535 ∧ r % 65535 = n % 65535 := by
  obtain ⟨r, r1, r2, r3⟩ := fold_C n n M (Nat.le_refl _) hn
  exact ⟨r, c48 ((p48_0_eq C prog.meth (n : Int) M).trans r1), r2, r3⟩
theorem Add_C {a b : Nat} (ha : a ≤ 65535) (hb : b ≤ 65535) : ∃ r : Nat, C 106 [.int .u16 (a : Int), .int .u16 (b : Int)] M = some (.int .u16 (r : Int), M) ∧ r ≤ 65535 ∧ r % 65535 = (a + b) % 65535 := by
  have hE := p106_0_eq C prog.meth (a : Int) (b : Int) M
  obtain ⟨r, r1, r2, r3⟩ := Fold_C (M := Mem.empty) (n := a + b) (by omega)
  have w : IntKind.wrap .u64 (IntKind.wrap .u64 (a : Int) + IntKind.wrap .u64 (b : Int)) = ((a + b : Nat) : Int) := by rw [wu64, wu64, wu64]; omega
  rw [w, r1, Option.bind_some] at hE
  simp only [Option.bind_some, List.getElem?_cons_zero, List.getElem?_cons_succ, int?_int, AVal.bool?, AVal.ptr?, AVal.sl?, AVal.tup?, AVal.agg?, AVal.ifc?, AVal.fn?, AVal.str?, List.head?_cons, List.tail_cons, List.isEmpty_nil, cond_true, cond_false, Option.isNone_some, Option.isNone_none, Bool.not_true, Bool.not_false, decide_true, decide_false, beq_self_eq_true, bne_self_eq_false, Int.reduceBEq, Int.reduceBNe, Int.cast_ofNat_Int] at hE
  exact ⟨r, c106 hE, r2, r3⟩
theorem compl16 {x : Nat} (h : x ≤ 65535) : IntKind.wrap .u16 (((BitVec.ofInt (IntKind.bits .u16) (IntKind.max .u16) ^^^ BitVec.ofInt (IntKind.bits .u16) (x : Int)).toNat : Nat) : Int) = ((65535 - x : Nat) : Int) := by
  have e1 : BitVec.ofInt 16 (IntKind.max .u16) = BitVec.allOnes 16 := by decide
  have e2 : (BitVec.ofInt (IntKind.bits .u16) (x : Int) : BitVec 16) = BitVec.ofNat 16 x := by
    show BitVec.ofInt 16 (x : Int) = _
    rw [BitVec.ofInt_natCast]
  have e3 : (BitVec.ofInt (IntKind.bits .u16) (IntKind.max .u16) ^^^ BitVec.ofInt (IntKind.bits .u16) (x : Int)).toNat = 65535 - x := by
    show (BitVec.ofInt 16 (IntKind.max .u16) ^^^ BitVec.ofInt 16 (x : Int)).toNat = _
    rw [e1, show (BitVec.ofInt 16 (x : Int)) = BitVec.ofNat 16 x from e2, BitVec.allOnes_xor, BitVec.toNat_not, BitVec.toNat_ofNat]
    omega
  rw [e3, wu16]; omega
theorem Update_C {f o n : Nat} (hf : f ≤ 65535) (ho : o ≤ 65535) (hn : n ≤ 65535) : ∃ r : Nat, C 95 [.int .u16 (f : Int), .int .u16 (o : Int), .int .u16 (n : Int)] M = some (.int .u16 (r : Int), M) ∧ r ≤ 65535 ∧ (r + n) % 65535 = (f + o) % 65535 := by
  have hE := p95_0_eq C prog.meth (f : Int) (o : Int) (n : Int) M
  obtain ⟨x, x1, x2, x3⟩ := Add_C (M := Mem.empty) (a := 65535 - f) (b := 65535 - o) (by omega) (by omega)
  obtain ⟨y, y1, y2, y3⟩ := Add_C (M := Mem.empty) x2 hn
  rw [compl16 hf, compl16 ho, x1, Option.bind_some] at hE
  simp only [Option.bind_some, List.getElem?_cons_zero, List.getElem?_cons_succ, int?_int, AVal.bool?, AVal.ptr?, AVal.sl?, AVal.tup?, AVal.agg?, AVal.ifc?, AVal.fn?, AVal.str?, List.head?_cons, List.tail_cons, List.isEmpty_nil, cond_true, cond_false, Option.isNone_some, Option.isNone_none, Bool.not_true, Bool.not_false, decide_true, decide_false, beq_self_eq_true, bne_self_eq_false, Int.reduceBEq, Int.reduceBNe, Int.cast_ofNat_Int] at hE
  rw [y1, Option.bind_some] at hE
  simp only [Option.bind_some, List.getElem?_cons_zero, List.getElem?_cons_succ, int?_int, AVal.bool?, AVal.ptr?, AVal.sl?, AVal.tup?, AVal.agg?, AVal.ifc?, AVal.fn?, AVal.str?, List.head?_cons, List.tail_cons, List.isEmpty_nil, cond_true, cond_false, Option.isNone_some, Option.isNone_none, Bool.not_true, Bool.not_false, decide_true, decide_false, beq_self_eq_true, bne_self_eq_false, Int.reduceBEq, Int.reduceBNe, Int.cast_ofNat_Int] at hE
  rw [compl16 y2] at hE
  exact ⟨65535 - y, c95 hE, by omega, by omega⟩
theorem Same16_C {a b : Nat} (h : a % 65535 = b % 65535) : C 18 [.int .u16 (a : Int), .int .u16 (b : Int)] M = some (.bool true, M) := by
  have hE := p18_0_eq C prog.meth (a : Int) (b : Int) M
  have e : (Int.tmod (a : Int) 65535 == Int.tmod (b : Int) 65535) = true := by
    rw [Int.tmod_eq_emod_of_nonneg (by omega), Int.tmod_eq_emod_of_nonneg (by omega)]
    have : ((a : Int) % 65535) = ((b : Int) % 65535) := by omega
    rw [this]; simp
  rw [e] at hE
  refine c18 (hE.trans ?_)
  cases ((a : Int) == (b : Int)) <;> rfl
theorem Sum_C {a : Option (Nat × Nat)} {l : Nat} {c : Cap} {xs : List Int} (hx : M.ints .u8 a l c = some xs) (hw : wfB xs) (hl : l ≤ 4096) : ∃ r : Nat, C 19 [.sl a l c] M = some (.int .u16 (r : Int), M) ∧ ((r : Int) % 65535 = wsum 0 xs % 65535) := by
  have hE := p19_0_eq C prog.meth a l c M
  obtain ⟨hxl, hx'⟩ := ints_iff.1 hx
  have e1 : IntKind.wrap .i64 (Int.tdiv ((l : Nat) : Int) 2) = ((l / 2 : Nat) : Int) := by
    rw [Int.tdiv_eq_ediv_of_nonneg (by omega), wrap_i64 (by omega) (by omega)]; omega
  rw [e1] at hE
  have rd : ∀ j (h : j < l), ∃ p, slPtr a c = some p ∧ M.ldI .u8 p.1 (p.2 + j) = some (xs[j]'(by omega)) := fun j h => by
    obtain ⟨p, hp, hv⟩ := hx' j h
    rw [List.getElem?_eq_getElem (by omega)] at hv
    exact ⟨p, hp, hv⟩
  have loop : ∀ (d i n : Nat), i + d = l / 2 → (n : Int) = wsum 0 (xs.take (2 * i)) → n ≤ i * 65536 → ∃ r : Nat, p19_1 C prog.meth a l c (n : Int) ((l / 2 : Nat) : Int) (i : Int) M = some (.int .u16 (r : Int), M) ∧ ((r : Int) % 65535 = wsum 0 xs % 65535) := by
    intro d
    induction d with
    | zero =>
      intro i n hi hn hb
      have hF := p19_1_eq C prog.meth a l c (n : Int) ((l / 2 : Nat) : Int) (i : Int) M
      have q : ¬ ((i : Int) < ((l / 2 : Nat) : Int)) := by omega
      by_cases hodd : l % 2 = 1
      · have e2 : (Int.tmod ((l : Nat) : Int) 2 == 1) = true := by
          rw [Int.tmod_eq_emod_of_nonneg (by omega)]
          have : ((l : Nat) : Int) % 2 = 1 := by omega
          rw [this]; rfl
        have w1 : IntKind.wrap .i64 (((l : Nat) : Int) - 1) = ((l - 1 : Nat) : Int) := by rw [wrap_i64 (by omega) (by omega)]; omega
        have k0 : (0 : Int) ≤ ((l - 1 : Nat) : Int) := by omega
        have k1 : Nat.blt (l - 1) l = true := Mem.blt_iff.2 (by omega)
        obtain ⟨p, hp, hv⟩ := rd (l - 1) (by omega)
        have hc := hw _ (List.getElem_mem (show l - 1 < xs.length by omega))
        obtain ⟨cN, hcN⟩ : ∃ cN : Nat, xs[l - 1]'(by omega) = (cN : Int) := ⟨(xs[l - 1]'(by omega)).toNat, by omega⟩
        rw [hcN] at hv hc
        have w2 : IntKind.wrap .u64 ((n : Int) + IntKind.wrap .u64 (IntKind.wrap .u64 (cN : Int) * 2 ^ Nat.min 8 (IntKind.bits .u64))) = ((n + cN * 256 : Nat) : Int) := by
          have : (2 : Int) ^ Nat.min 8 (IntKind.bits .u64) = 256 := by decide
          rw [this, wu64, wu64, wu64]; omega
        obtain ⟨r, r1, r2, r3⟩ := Fold_C (M := Mem.empty) (n := n + cN * 256) (by omega)
        simp only [Option.bind_some, List.getElem?_cons_zero, List.getElem?_cons_succ, int?_int, AVal.bool?, AVal.ptr?, AVal.sl?, AVal.tup?, AVal.agg?, AVal.ifc?, AVal.fn?, AVal.str?, List.head?_cons, List.tail_cons, List.isEmpty_nil, cond_true, cond_false, Option.isNone_some, Option.isNone_none, Bool.not_true, Bool.not_false, decide_true, decide_false, beq_self_eq_true, bne_self_eq_false, Int.reduceBEq, Int.reduceBNe, Int.cast_ofNat_Int, q, e2, w1, k0, k1, Int.toNat_natCast, hp, Nat.mul_one, hv, w2] at hF
        rw [r1, Option.bind_some] at hF
        simp only [Option.bind_some, List.getElem?_cons_zero, List.getElem?_cons_succ, int?_int, AVal.bool?, AVal.ptr?, AVal.sl?, AVal.tup?, AVal.agg?, AVal.ifc?, AVal.fn?, AVal.str?, List.head?_cons, List.tail_cons, List.isEmpty_nil, cond_true, cond_false, Option.isNone_some, Option.isNone_none, Bool.not_true, Bool.not_false, decide_true, decide_false, beq_self_eq_true, bne_self_eq_false, Int.reduceBEq, Int.reduceBNe, Int.cast_ofNat_Int] at hF
        refine ⟨r, hF, ?_⟩
        have ex : xs = xs.take (2 * i) ++ [(cN : Int)] := by
          have : 2 * i = l - 1 := by omega
          rw [this, ← hcN, ← List.take_succ_eq_append_getElem (by omega), show l - 1 + 1 = l by omega, List.take_of_length_le (by omega)]
        have hs : wsum 0 xs = n + cN * 256 := by
          rw [ex, wsum_app, ← hn]
          have : wt (0 + (xs.take (2 * i)).length) = 256 := by
            unfold wt
            rw [if_pos (by simp; omega)]
          simp only [wsum]
          rw [this]; omega
        rw [hs]; omega
      · have e2 : (Int.tmod ((l : Nat) : Int) 2 == 1) = false := by
          rw [Int.tmod_eq_emod_of_nonneg (by omega)]
          have : ((l : Nat) : Int) % 2 = 0 := by omega
          rw [this]; rfl
        obtain ⟨r, r1, r2, r3⟩ := Fold_C (M := Mem.empty) (n := n) (by omega)
        simp only [Option.bind_some, List.getElem?_cons_zero, List.getElem?_cons_succ, int?_int, AVal.bool?, AVal.ptr?, AVal.sl?, AVal.tup?, AVal.agg?, AVal.ifc?, AVal.fn?, AVal.str?, List.head?_cons, List.tail_cons, List.isEmpty_nil, cond_true, cond_false, Option.isNone_some, Option.isNone_none, Bool.not_true, Bool.not_false, decide_true, decide_false, beq_self_eq_true, bne_self_eq_false, Int.reduceBEq, Int.reduceBNe, Int.cast_ofNat_Int, q, e2] at hF
        rw [r1, Option.bind_some] at hF
        simp only [Option.bind_some, List.getElem?_cons_zero, List.getElem?_cons_succ, int?_int, AVal.bool?, AVal.ptr?, AVal.sl?, AVal.tup?, AVal.agg?, AVal.ifc?, AVal.fn?, AVal.str?, List.head?_cons, List.tail_cons, List.isEmpty_nil, cond_true, cond_false, Option.isNone_some, Option.isNone_none, Bool.not_true, Bool.not_false, decide_true, decide_false, beq_self_eq_true, bne_self_eq_false, Int.reduceBEq, Int.reduceBNe, Int.cast_ofNat_Int] at hF
        rw [List.take_of_length_le (by omega)] at hn
        exact ⟨r, hF, by rw [← hn]; omega⟩
    | succ d ih =>
      intro i n hi hn hb
      have hF := p19_1_eq C prog.meth a l c (n : Int) ((l / 2 : Nat) : Int) (i : Int) M
      have q : ((i : Int) < ((l / 2 : Nat) : Int)) := by omega
      have w1 : IntKind.wrap .i64 (2 * (i : Int)) = ((2 * i : Nat) : Int) := by rw [wrap_i64 (by omega) (by omega)]; omega
      have w2 : IntKind.wrap .i64 (((2 * i : Nat) : Int) + 1) = ((2 * i + 1 : Nat) : Int) := by rw [wrap_i64 (by omega) (by omega)]; omega
      have w3 : IntKind.wrap .i64 ((i : Int) + 1) = ((i + 1 : Nat) : Int) := by rw [wrap_i64 (by omega) (by omega)]; rfl
      have k0 : (0 : Int) ≤ ((2 * i : Nat) : Int) := by omega
      have k1 : (0 : Int) ≤ ((2 * i + 1 : Nat) : Int) := by omega
      have k2 : Nat.blt (2 * i) l = true := Mem.blt_iff.2 (by omega)
      have k3 : Nat.blt (2 * i + 1) l = true := Mem.blt_iff.2 (by omega)
      obtain ⟨p, hp, hv⟩ := rd (2 * i) (by omega)
      obtain ⟨p', hp', hv'⟩ := rd (2 * i + 1) (by omega)
      rw [hp] at hp'; cases hp'
      have hc := hw _ (List.getElem_mem (show 2 * i < xs.length by omega))
      have hc' := hw _ (List.getElem_mem (show 2 * i + 1 < xs.length by omega))
      obtain ⟨x, hx1⟩ : ∃ x : Nat, xs[2 * i]'(by omega) = (x : Int) := ⟨(xs[2 * i]'(by omega)).toNat, by omega⟩
      obtain ⟨y, hy1⟩ : ∃ x : Nat, xs[2 * i + 1]'(by omega) = (x : Int) := ⟨(xs[2 * i + 1]'(by omega)).toNat, by omega⟩
      rw [hx1] at hv hc
      rw [hy1] at hv' hc'
      have w4 : IntKind.wrap .u64 (((BitVec.ofInt (IntKind.bits .u64) (IntKind.wrap .u64 (IntKind.wrap .u64 (x : Int) * 2 ^ Nat.min 8 (IntKind.bits .u64))) ||| BitVec.ofInt (IntKind.bits .u64) (IntKind.wrap .u64 (y : Int))).toNat : Nat) : Int) = ((x * 256 + y : Nat) : Int) := by
        have := ldF_ldR (v := IntKind.wrap .u64 (x : Int)) (c := (y : Int)) (by rw [wu64]; omega) (by omega)
        unfold ldF ldR at this
        rw [this, wu64, wu64, wu64, wu64]; omega
      have w5 : IntKind.wrap .u64 ((n : Int) + ((x * 256 + y : Nat) : Int)) = ((n + (x * 256 + y) : Nat) : Int) := by rw [wu64]; omega
      simp only [Option.bind_some, List.getElem?_cons_zero, List.getElem?_cons_succ, int?_int, AVal.bool?, AVal.ptr?, AVal.sl?, AVal.tup?, AVal.agg?, AVal.ifc?, AVal.fn?, AVal.str?, List.head?_cons, List.tail_cons, List.isEmpty_nil, cond_true, cond_false, Option.isNone_some, Option.isNone_none, Bool.not_true, Bool.not_false, decide_true, decide_false, beq_self_eq_true, bne_self_eq_false, Int.reduceBEq, Int.reduceBNe, Int.cast_ofNat_Int, q, w1, w2, w3, k0, k1, k2, k3, Int.toNat_natCast, hp, Nat.mul_one, hv, hv', w4, w5] at hF
      obtain ⟨r, r1, r2⟩ := ih (i + 1) (n + (x * 256 + y)) (by omega) (by
        have e1 : xs.take (2 * (i + 1)) = xs.take (2 * i) ++ [(x : Int), (y : Int)] := by
          rw [show 2 * (i + 1) = 2 * i + 1 + 1 by omega, List.take_succ_eq_append_getElem (by omega), List.take_succ_eq_append_getElem (by omega), hx1, hy1]; simp
        rw [e1, wsum_app, ← hn]
        have l1 : (xs.take (2 * i)).length = 2 * i := by simp; omega
        have t1 : wt (0 + 2 * i) = 256 := by unfold wt; rw [if_pos (by omega)]
        have t2 : wt (0 + 2 * i + 1) = 1 := by unfold wt; rw [if_neg (by omega)]
        rw [l1]
        simp only [wsum, t1, t2]; omega) (by omega)
      exact ⟨r, hF.trans r1, r2⟩
  obtain ⟨r, r1, r2⟩ := loop (l / 2) 0 0 (by omega) (by simp [wsum]) (by omega)
  exact ⟨r, c19 (hE.trans r1), r2⟩
end
/-! Two bytes as a number. -/
theorem load2 {B : List Int} (hw : wfB B) {k : Nat} (h : k + 2 ≤ B.length) : ((B.drop ((k : Int)).toNat).take (2 : Int).toNat).foldl ldF 0 = B[k]'(by omega) * 256 + B[k + 1]'(by omega) := by
  have e : (B.drop ((k : Int)).toNat).take (2 : Int).toNat = [B[k]'(by omega), B[k + 1]'(by omega)] := by
    rw [Int.toNat_natCast, List.drop_eq_getElem_cons (by omega), List.drop_eq_getElem_cons (by omega)]; rfl
  have h0 := hw _ (List.getElem_mem (show k < B.length by omega))
  have h1 := hw _ (List.getElem_mem (show k + 1 < B.length by omega))
  rw [e, List.foldl_cons, List.foldl_cons, List.foldl_nil, ldF_ldR (by omega) h0, ldF_ldR (ldR_pos _ _) h1]
  unfold ldR
  rw [wu64, wu64, wu64, wu64, wu64, wu64]
  omega
theorem store2 {B : List Int} {k : Nat} {V : Int} (h : k + 2 ≤ B.length) (h0 : 0 ≤ V ∧ V < 65536) : storeB B (k : Int) 2 V = (B.set k (V / 256)).set (k + 1) (V % 256) := by
  have := stR_storeB (B := B) (k := k) (n := 2) (V := V) h0.1 (by omega) (by omega) (by omega)
  rw [show ((2 : Nat) : Int) = 2 from rfl] at this
  rw [← this]
  rw [stR, stR, stR]
  show (B.set (k + 1) _).set k _ = _
  rw [List.set_comm _ _ (show k + 1 ≠ k by omega)]
  congr 1
  · congr 1
    rw [Int.tdiv_eq_ediv_of_nonneg (by omega), wu64, Int.tmod_eq_emod_of_nonneg (by omega), wu8]; omega
  · rw [Int.tmod_eq_emod_of_nonneg (by omega), wu8]; omega
/-! Hands. -/
section
variable {M0 M : Mem} {role : Nat → Rj} {gs : List Gp} {B : List Int} {A T mv s hd : Nat}
structure Hnd (M0 M : Mem) (role : Nat → Rj) (gs : List Gp) (B : List Int) (A T mv s hd : Nat) (cs : List AVal) : Prop where
  I : GS false KI M0 M role [s] [some 0] gs [⟨B, A, T, mv⟩]
  gh : M.get hd = some ⟨.ptr (some (s, 0)) :: cs, .fixed⟩
  rh : role hd = .other 0
  hM : M0.n ≤ hd
theorem GS.ext' {b : Bool} {K : Kd} {hs : List Nat} {cur : List (Option Nat)} {ds : List Dt} {M' : Mem} (H : GS b K M0 M role hs cur gs ds) (hu : M.Upto M') : GS b K M0 M' (fun y => if y < M.n then role y else .other 0) hs cur gs ds := H.frame (H.up.trans hu) (fun y hy _ => hu.2 y hy) (fun y hy => if_pos hy)
theorem Hnd.upto {cs : List AVal} {M' : Mem} (H : Hnd M0 M role gs B A T mv s hd cs) (hu : M.Upto M') : Hnd M0 M' (fun y => if y < M.n then role y else .other 0) gs B A T mv s hd cs :=
  ⟨H.I.ext' hu, hu.get H.gh, by rw [if_pos (Mem.get_lt H.gh)]; exact H.rh, H.hM⟩
theorem alive_C (H : GS false KI M0 M role [s] [some 0] gs [⟨B, A, T, mv⟩]) : C 40 [.ptr (some (s, 0))] M = some (.int .i64 0, M) := by
  have hE := p40_0_eq C prog.meth (some (s, 0)) M
  have ask01 : ∀ len, askE len 0 1 = 0 ∨ askE len 0 1 = 20 := fun len => by
    unfold askE
    rw [if_neg (by decide), if_neg (by decide), if_neg (by decide)]
    split
    · exact .inr rfl
    · exact .inl rfl
  rcases I_load H (i := 0) (g := 0) rfl rfl rfl 0 1 with ⟨e, q⟩ | ⟨e, q⟩
  · have : askE B.length 0 1 = 20 := by rcases ask01 B.length with h | h; exact absurd h e; exact h
    rw [this] at q
    rw [q, Option.bind_some] at hE
    simp only [Option.bind_some, List.getElem?_cons_zero, List.getElem?_cons_succ, int?_int, AVal.bool?, AVal.ptr?, AVal.sl?, AVal.tup?, AVal.agg?, AVal.ifc?, AVal.fn?, AVal.str?, List.head?_cons, List.tail_cons, List.isEmpty_nil, cond_true, cond_false, Option.isNone_some, Option.isNone_none, Bool.not_true, Bool.not_false, decide_true, decide_false, beq_self_eq_true, bne_self_eq_false, Int.reduceBEq, Int.reduceBNe, Int.cast_ofNat_Int] at hE
    exact c40 hE
  · rw [q, Option.bind_some] at hE
    simp only [Option.bind_some, List.getElem?_cons_zero, List.getElem?_cons_succ, int?_int, AVal.bool?, AVal.ptr?, AVal.sl?, AVal.tup?, AVal.agg?, AVal.ifc?, AVal.fn?, AVal.str?, List.head?_cons, List.tail_cons, List.isEmpty_nil, cond_true, cond_false, Option.isNone_some, Option.isNone_none, Bool.not_true, Bool.not_false, decide_true, decide_false, beq_self_eq_true, bne_self_eq_false, Int.reduceBEq, Int.reduceBNe, Int.cast_ofNat_Int] at hE
    exact c40 hE
theorem withinH_C {cs : List AVal} (H : Hnd M0 M role gs B A T mv s hd cs) (hB : B.length ≤ 2048) {x n : Nat} (hx : x < 2 ^ 64) (hn : n < 2 ^ 64) : C 66 [.ptr (some (hd, 0)), .int .u64 (x : Int), .int .u64 (n : Int)] M = some (.bool (decide (x ≤ B.length ∧ n ≤ B.length - x)), M) := by
  have hE := p66_0_eq C prog.meth (some (hd, 0)) (x : Int) (n : Int) M
  have ln := I_len H.I (i := 0) rfl rfl
  simp only [bytesO, List.getElem?_cons_zero] at ln
  have w1 : IntKind.wrap .u64 ((B.length : Nat) : Int) = ((B.length : Nat) : Int) := by rw [wu64]; omega
  simp only [Option.bind_some, List.getElem?_cons_zero, List.getElem?_cons_succ, int?_int, AVal.bool?, AVal.ptr?, AVal.sl?, AVal.tup?, AVal.agg?, AVal.ifc?, AVal.fn?, AVal.str?, List.head?_cons, List.tail_cons, List.isEmpty_nil, cond_true, cond_false, Option.isNone_some, Option.isNone_none, Bool.not_true, Bool.not_false, decide_true, decide_false, beq_self_eq_true, bne_self_eq_false, Int.reduceBEq, Int.reduceBNe, Int.cast_ofNat_Int, Nat.zero_add, ldP_at H.gh] at hE
  rw [ln, Option.bind_some] at hE
  simp only [Option.bind_some, List.getElem?_cons_zero, List.getElem?_cons_succ, int?_int, AVal.bool?, AVal.ptr?, AVal.sl?, AVal.tup?, AVal.agg?, AVal.ifc?, AVal.fn?, AVal.str?, List.head?_cons, List.tail_cons, List.isEmpty_nil, cond_true, cond_false, Option.isNone_some, Option.isNone_none, Bool.not_true, Bool.not_false, decide_true, decide_false, beq_self_eq_true, bne_self_eq_false, Int.reduceBEq, Int.reduceBNe, Int.cast_ofNat_Int, w1] at hE
  by_cases h1 : x ≤ B.length
  · have q : ((x : Nat) : Int) ≤ ((B.length : Nat) : Int) := by omega
    have w2 : IntKind.wrap .u64 (((B.length : Nat) : Int) - (x : Int)) = ((B.length - x : Nat) : Int) := by rw [wu64]; omega
    simp only [q, decide_true, cond_true, w2] at hE
    have e : decide (((n : Nat) : Int) ≤ ((B.length - x : Nat) : Int)) = decide (x ≤ B.length ∧ n ≤ B.length - x) := by
      by_cases h2 : n ≤ B.length - x
      · rw [decide_eq_true (by omega), decide_eq_true ⟨h1, h2⟩]
      · rw [decide_eq_false (by omega), decide_eq_false (fun h => h2 h.2)]
    rw [e] at hE
    exact c66 hE
  · have q : ¬ (((x : Nat) : Int) ≤ ((B.length : Nat) : Int)) := by omega
    simp only [q, decide_false, cond_false] at hE
    rw [decide_eq_false (fun h => h1 h.1)]
    exact c66 hE
end
end Go.Proofs.Ytidofnpfeibbfaa.M
