import Derived.Test.YtidofnpfeibbfaaT
import Derived.Test.YtidofnpfeibbfaaXLib4
set_option linter.unusedVariables false
set_option linter.unusedSimpArgs false
set_option linter.unnecessarySimpa false
set_option maxRecDepth 100000
namespace Go.Proofs.Ytidofnpfeibbfaa.M
open Go.Abs
def bt (r m : Int) : Int := IntKind.wrap .i64 ((BitVec.ofInt (IntKind.bits .i64) r &&& BitVec.ofInt (IntKind.bits .i64) m).toNat)
def wi (n a b : Int) : Bool := cond (decide (n ≥ a)) (decide (n ≤ b)) false
def rowT : List Int := [2048, 1057, 1027, 33, 3, 3, 33, 3, 33, 3, 3, 3, 65, 65, 1025, 1025, 1025, 1025, 1159, 135, 10, 1033, 16, 49, 49, 49, 49, 19, 19, 19, 19, 19, 19, 256, 0, 512, 0]
def rowI (op : Nat) : Int := rowT.getD op 2048
def offI (r n : Int) : Bool := cond (bt r 4 != 0) true (cond (bt r 8 != 0) (wi n 0 7) (cond (bt r 16 != 0) (wi n 0 255) (n == 0)))
def argsI (n : Int) : Int := cond (n == 1) 2 (cond (n == 8) 2 (cond (n == 2) 3 (cond (n == 5) 3 (cond (decide (n ≥ 16)) (cond (decide (n < 24)) 3 0) (cond (decide (n ≥ 3)) (cond (decide (n ≤ 7)) 1 0) 0)))))
def szI (n : Int) : Bool := cond (wi n 1 8) (IntKind.wrap .i64 ((BitVec.ofInt (IntKind.bits .i64) n &&& BitVec.ofInt (IntKind.bits .i64) (IntKind.wrap .i64 (n - 1))).toNat) == 0) false
def hpI (n : Int) : Bool := decide (argsI (IntKind.wrap .i32 n) > 0)
def immI (r n : Int) : Bool := cond (bt r 32 != 0) true (cond (bt r 64 != 0) (wi n 0 63) (cond (bt r 128 != 0) (szI n) (cond (bt r 256 != 0) (wi n 1 16) (cond (bt r 512 != 0) (hpI n) (n == 0)))))
def okI (op : Nat) (d s o i : Int) : Bool := !(cond (rowI op == 2048) true (cond (decide (d > 9)) true (cond (decide (s > 9)) true (cond (cond (bt (rowI op) 1 == 0) (decide (d > 0)) false) true (cond (cond (bt (rowI op) 2 == 0) (decide (s > 0)) false) true (cond (offI (rowI op) o) (!immI (rowI op) i) true))))))
section
variable {M : Mem}
theorem within_C (n a b : Int) : C 85 [.int .i64 n, .int .i64 a, .int .i64 b] M = some (.bool (wi n a b), M) := by
  have hE := p85_0_eq C prog.meth n a b M
  refine c85 (hE.trans ?_)
  unfold wi
  cases decide (n ≥ a) <;> rfl
theorem row_C (op : Nat) : C 55 [.int .u8 (op : Int)] M = some (.int .i64 (rowI op), M) := by
  refine c55 ?_
  by_cases h : op ≤ 36
  · have : op = 0 ∨ op = 1 ∨ op = 2 ∨ op = 3 ∨ op = 4 ∨ op = 5 ∨ op = 6 ∨ op = 7 ∨ op = 8 ∨ op = 9 ∨ op = 10 ∨ op = 11 ∨ op = 12 ∨ op = 13 ∨ op = 14 ∨ op = 15 ∨ op = 16 ∨ op = 17 ∨ op = 18 ∨ op = 19 ∨ op = 20 ∨ op = 21 ∨ op = 22 ∨ op = 23 ∨ op = 24 ∨ op = 25 ∨ op = 26 ∨ op = 27 ∨ op = 28 ∨ op = 29 ∨ op = 30 ∨ op = 31 ∨ op = 32 ∨ op = 33 ∨ op = 34 ∨ op = 35 ∨ op = 36 := by omega
    rcases this with rfl | rfl | rfl | rfl | rfl | rfl | rfl | rfl | rfl | rfl | rfl | rfl | rfl | rfl | rfl | rfl | rfl | rfl | rfl | rfl | rfl | rfl | rfl | rfl | rfl | rfl | rfl | rfl | rfl | rfl | rfl | rfl | rfl | rfl | rfl | rfl | rfl <;>
      simp only [p55_0_eq, p55_1_eq, p55_2_eq, p55_3_eq, p55_4_eq, p55_5_eq, p55_6_eq, p55_7_eq, p55_8_eq, p55_9_eq, p55_10_eq, p55_11_eq, p55_12_eq, p55_13_eq, Int.cast_ofNat_Int, Int.reduceBEq, Int.natCast_zero, Int.natCast_one, cond_true, cond_false] <;> rfl
  · have e : ∀ k : Int, k ≤ 36 → ((op : Int) == k) = false := fun k hk => by simp; omega
    simp only [p55_0_eq, p55_1_eq, p55_2_eq, p55_3_eq, p55_4_eq, p55_5_eq, p55_6_eq, p55_7_eq, p55_8_eq, p55_9_eq, p55_10_eq, p55_11_eq, p55_12_eq, p55_13_eq, e 1 (by omega), e 2 (by omega), e 3 (by omega), e 4 (by omega), e 5 (by omega), e 6 (by omega), e 7 (by omega), e 8 (by omega), e 9 (by omega), e 10 (by omega), e 11 (by omega), e 12 (by omega), e 13 (by omega), e 14 (by omega), e 15 (by omega), e 16 (by omega), e 17 (by omega), e 18 (by omega), e 19 (by omega), e 20 (by omega), e 21 (by omega), e 22 (by omega), e 23 (by omega), e 24 (by omega), e 25 (by omega), e 26 (by omega), e 27 (by omega), e 28 (by omega), e 29 (by omega), e 30 (by omega), e 31 (by omega), e 32 (by omega), e 33 (by omega), e 34 (by omega), e 35 (by omega), e 36 (by omega), cond_false]
    have : rowI op = 2048 := by unfold rowI; rw [List.getD_eq_getElem?_getD, List.getElem?_eq_none (by simp [rowT]; omega)]; rfl
    rw [this]
theorem off_C (r n : Int) : C 56 [.int .i64 r, .int .i64 n] M = some (.bool (offI r n), M) := by
  have hE := p56_0_eq C prog.meth r n M
  simp only [int?_int, rvs, Int.reduceBEq, Int.reduceBNe, Int.cast_ofNat_Int, within_C] at hE
  refine c56 (hE.trans ?_)
  have e4 : IntKind.wrap .i64 ((BitVec.ofInt (IntKind.bits .i64) r &&& BitVec.ofInt (IntKind.bits .i64) 4).toNat) = bt r 4 := rfl
  have e8 : IntKind.wrap .i64 ((BitVec.ofInt (IntKind.bits .i64) r &&& BitVec.ofInt (IntKind.bits .i64) 8).toNat) = bt r 8 := rfl
  have e16 : IntKind.wrap .i64 ((BitVec.ofInt (IntKind.bits .i64) r &&& BitVec.ofInt (IntKind.bits .i64) 16).toNat) = bt r 16 := rfl
  unfold offI
  rw [e4, e8, e16]
  cases bt r 4 != 0 <;> cases bt r 8 != 0 <;> cases bt r 16 != 0 <;> rfl
theorem args_C (n : Int) : C 58 [.int .i32 n] M = some (.int .i64 (argsI n), M) := by
  have hE := p58_0_eq C prog.meth n M
  simp only [p58_1_eq, p58_2_eq, p58_3_eq] at hE
  refine c58 (hE.trans ?_)
  unfold argsI
  by_cases h1 : n = 1
  · subst h1; rfl
  by_cases h8 : n = 8
  · subst h8; rfl
  by_cases h2 : n = 2
  · subst h2; rfl
  by_cases h5 : n = 5
  · subst h5; rfl
  have e1 : (n == 1) = false := by simpa using h1
  have e8 : (n == 8) = false := by simpa using h8
  have e2 : (n == 2) = false := by simpa using h2
  have e5 : (n == 5) = false := by simpa using h5
  simp only [e1, e8, e2, e5, cond_false]
  by_cases h16 : n ≥ 16
  · have h3 : n ≥ 3 := by omega
    have h7 : ¬ n ≤ 7 := by omega
    by_cases h24 : n < 24
    · simp [h16, h24]
    · simp [h16, h24, h3, h7]
  · simp only [h16, decide_false, cond_false]
    cases decide (n ≥ 3) <;> cases decide (n ≤ 7) <;> rfl
theorem imm_C (r n : Int) : C 57 [.int .i64 r, .int .i64 n] M = some (.bool (immI r n), M) := by
  have hE := p57_0_eq C prog.meth r n M
  simp only [p57_1_eq, p57_2_eq, int?_int, rvs, Int.reduceBEq, Int.reduceBNe, Int.cast_ofNat_Int, within_C, args_C] at hE
  refine c57 (hE.trans ?_)
  have e : ∀ k, IntKind.wrap .i64 ((BitVec.ofInt (IntKind.bits .i64) r &&& BitVec.ofInt (IntKind.bits .i64) k).toNat) = bt r k := fun k => rfl
  unfold immI
  rw [e, e, e, e, e]
  cases bt r 32 != 0 <;> cases bt r 64 != 0 <;> cases bt r 128 != 0 <;> cases bt r 256 != 0 <;> cases bt r 512 != 0 <;> try rfl
  all_goals
    simp only [cond_true, cond_false, szI]
    cases wi n 1 8 <;> rfl
theorem box5 (M : Mem) (op d s o i : Int) : (M.alloc ⟨[.int .u8 op, .int .u8 d, .int .u8 s, .int .i16 o, .int .i32 i], .fixed⟩).ldI .u8 M.n 0 = some op ∧ (M.alloc ⟨[.int .u8 op, .int .u8 d, .int .u8 s, .int .i16 o, .int .i32 i], .fixed⟩).ldI .u8 M.n 1 = some d ∧ (M.alloc ⟨[.int .u8 op, .int .u8 d, .int .u8 s, .int .i16 o, .int .i32 i], .fixed⟩).ldI .u8 M.n 2 = some s ∧ (M.alloc ⟨[.int .u8 op, .int .u8 d, .int .u8 s, .int .i16 o, .int .i32 i], .fixed⟩).ldI .i16 M.n 3 = some o ∧ (M.alloc ⟨[.int .u8 op, .int .u8 d, .int .u8 s, .int .i16 o, .int .i32 i], .fixed⟩).ldI .i32 M.n 4 = some i :=
  ⟨ldI_new _ _ _ _, ldI_new _ _ _ _, ldI_new _ _ _ _, ldI_new _ _ _ _, ldI_new _ _ _ _⟩
structure InsnR (op : Nat) (d s o i : Int) : Prop where
  op : op < 256
  d : 0 ≤ d ∧ d < 256
  s : 0 ≤ s ∧ s < 256
  o : -32768 ≤ o ∧ o < 32768
  i : -2147483648 ≤ i ∧ i < 2147483648
theorem InsnR.w {op : Nat} {d s o i : Int} (h : InsnR op d s o i) : IntKind.wrap .i64 o = o ∧ IntKind.wrap .i64 i = i := by
  have h1 := h.o
  have h2 := h.i
  exact ⟨wrap_i64 (by omega) (by omega), wrap_i64 (by omega) (by omega)⟩
def errI (b : Bool) : Int := cond b 0 130
theorem Check_C {op : Nat} {d s o i : Int} (h : InsnR op d s o i) : ∃ M', C 35 [.agg [.int .u8 (op : Int), .int .u8 d, .int .u8 s, .int .i16 o, .int .i32 i]] M = some (.int .i64 (errI (okI op d s o i)), M') ∧ M.Upto M' := by
  have hE := p35_0_eq C prog.meth op d s o i M
  have hb := box5 M op d s o i
  have hu := Mem.Upto.alloc M ⟨[.int .u8 (op : Int), .int .u8 d, .int .u8 s, .int .i16 o, .int .i32 i], .fixed⟩
  generalize M.alloc ⟨[.int .u8 (op : Int), .int .u8 d, .int .u8 s, .int .i16 o, .int .i32 i], .fixed⟩ = M1 at hE hb hu
  refine ⟨M1, c35 (hE.trans ?_), hu⟩
  have ed : decide (d ≥ 10) = decide (d > 9) := by by_cases h : d ≥ 10 <;> simp [h] <;> omega
  have es : decide (s ≥ 10) = decide (s > 9) := by by_cases h : s ≥ 10 <;> simp [h] <;> omega
  simp only [p35_1_eq, p35_2_eq, p35_3_eq, p35_4_eq, int?_int, rvs, Int.reduceBEq, Int.reduceBNe, Int.cast_ofNat_Int, hb, row_C, off_C, imm_C, h.w, ed, es]
  have e : ∀ k, IntKind.wrap .i64 ((BitVec.ofInt (IntKind.bits .i64) (rowI op) &&& BitVec.ofInt (IntKind.bits .i64) k).toNat) = bt (rowI op) k := fun k => rfl
  rw [e, e]
  unfold okI errI
  generalize offI (rowI op) o = x1
  generalize immI (rowI op) i = x2
  generalize (rowI op == 2048) = x3
  generalize (bt (rowI op) 1 == 0) = x4
  generalize (bt (rowI op) 2 == 0) = x5
  generalize decide (d > 9) = x6
  generalize decide (s > 9) = x7
  generalize decide (d > 0) = x8
  generalize decide (s > 0) = x9
  cases x1 <;> cases x2 <;> cases x3 <;> cases x4 <;> cases x5 <;> cases x6 <;> cases x7 <;> cases x8 <;> cases x9 <;> rfl
end
def clsL : List Nat := [0, 1, 2, 1, 2, 2, 1, 2, 1, 2, 2, 2, 3, 3, 4, 4, 4, 4, 5, 5, 6, 7, 8, 9, 9, 9, 9, 10, 10, 10, 10, 10, 10, 11, 12, 13, 12]
def cls (op : Nat) : Nat := clsL.getD op 0
def hasD (c : Nat) : Bool := [false, true, true, true, true, true, false, true, false, true, true, false, false, false].getD c false
def hasS (c : Nat) : Bool := [false, false, true, false, false, true, true, false, false, false, true, false, false, false].getD c false
def offS (c : Nat) (n : Int) : Bool := match c with
  | 5 => true
  | 6 => wi n 0 7
  | 7 => wi n 0 7
  | 8 => wi n 0 255
  | 9 => wi n 0 255
  | 10 => wi n 0 255
  | _ => n == 0
def immS (sz hp : Int → Bool) (c : Nat) (n : Int) : Bool := match c with
  | 1 => true
  | 3 => wi n 0 63
  | 5 => sz n
  | 9 => true
  | 11 => wi n 1 16
  | 13 => hp n
  | _ => n == 0
def okS (sz hp : Int → Bool) (c : Nat) (d s o i : Int) : Bool := !(cond (Nat.beq c 0) true (cond (decide (d > 9)) true (cond (decide (s > 9)) true (cond (cond (!hasD c) (decide (d > 0)) false) true (cond (cond (!hasS c) (decide (s > 0)) false) true (cond (offS c o) (!immS sz hp c i) true))))))
theorem ops37 {op : Nat} (h : op ≤ 36) : op = 0 ∨ op = 1 ∨ op = 2 ∨ op = 3 ∨ op = 4 ∨ op = 5 ∨ op = 6 ∨ op = 7 ∨ op = 8 ∨ op = 9 ∨ op = 10 ∨ op = 11 ∨ op = 12 ∨ op = 13 ∨ op = 14 ∨ op = 15 ∨ op = 16 ∨ op = 17 ∨ op = 18 ∨ op = 19 ∨ op = 20 ∨ op = 21 ∨ op = 22 ∨ op = 23 ∨ op = 24 ∨ op = 25 ∨ op = 26 ∨ op = 27 ∨ op = 28 ∨ op = 29 ∨ op = 30 ∨ op = 31 ∨ op = 32 ∨ op = 33 ∨ op = 34 ∨ op = 35 ∨ op = 36 := by omega
theorem rowI_big {op : Nat} (h : ¬ op ≤ 36) : rowI op = 2048 ∧ cls op = 0 := by
  refine ⟨?_, ?_⟩
  · unfold rowI; rw [List.getD_eq_getElem?_getD, List.getElem?_eq_none (by simp [rowT]; omega)]; rfl
  · unfold cls; rw [List.getD_eq_getElem?_getD, List.getElem?_eq_none (by simp [clsL]; omega)]; rfl
theorem okI_S (op : Nat) (d s o i : Int) : okI op d s o i = okS szI hpI (cls op) d s o i := by
  by_cases h : op ≤ 36
  · rcases ops37 h with rfl | rfl | rfl | rfl | rfl | rfl | rfl | rfl | rfl | rfl | rfl | rfl | rfl | rfl | rfl | rfl | rfl | rfl | rfl | rfl | rfl | rfl | rfl | rfl | rfl | rfl | rfl | rfl | rfl | rfl | rfl | rfl | rfl | rfl | rfl | rfl | rfl <;> kernel_rfl
  · unfold okI
    rw [(rowI_big h).1, (rowI_big h).2]
    rfl
def szR (n : Int) : Bool := cond (n == 1) true (cond (n == 2) true (cond (n == 4) true (n == 8)))
def hpR (n : Int) : Bool := cond (wi n 1 8) true (wi n 16 23)
theorem szI_R (n : Int) : szI n = szR n := by
  by_cases h : 1 ≤ n ∧ n ≤ 8
  · have : n = 1 ∨ n = 2 ∨ n = 3 ∨ n = 4 ∨ n = 5 ∨ n = 6 ∨ n = 7 ∨ n = 8 := by omega
    rcases this with rfl | rfl | rfl | rfl | rfl | rfl | rfl | rfl <;> rfl
  · have h1 : wi n 1 8 = false := by
      unfold wi
      by_cases h1 : n ≥ 1
      · simp [h1]; omega
      · simp [h1]
    have e : ∀ k : Int, 1 ≤ k → k ≤ 8 → (n == k) = false := fun k a b => by simp; omega
    unfold szI szR
    rw [h1, e 1 (by omega) (by omega), e 2 (by omega) (by omega), e 4 (by omega) (by omega), e 8 (by omega) (by omega)]
    rfl
theorem argsI_pos (n : Int) : decide (argsI n > 0) = hpR n := by
  unfold argsI hpR wi
  by_cases h1 : n = 1
  · subst h1; rfl
  by_cases h8 : n = 8
  · subst h8; rfl
  by_cases h2 : n = 2
  · subst h2; rfl
  by_cases h5 : n = 5
  · subst h5; rfl
  have e1 : (n == 1) = false := by simpa using h1
  have e8 : (n == 8) = false := by simpa using h8
  have e2 : (n == 2) = false := by simpa using h2
  have e5 : (n == 5) = false := by simpa using h5
  simp only [e1, e8, e2, e5, cond_false]
  by_cases h16 : n ≥ 16
  · by_cases h24 : n < 24
    · have : n ≤ 23 := by omega
      have : ¬ n ≤ 8 := by omega
      have : n ≥ 1 := by omega
      simp [*]
    · have : ¬ n ≤ 23 := by omega
      have : ¬ n ≤ 8 := by omega
      have : n ≥ 1 := by omega
      simp [*]
  · by_cases h3 : n ≥ 3
    · by_cases h7 : n ≤ 7
      · have : n ≤ 8 := by omega
        have : n ≥ 1 := by omega
        simp [*]
      · have : ¬ n ≤ 8 := by omega
        have : n ≥ 1 := by omega
        simp [*]
    · have : ¬ n ≥ 1 := by omega
      simp [*]
theorem wrap_i32 {n : Int} (h0 : -2147483648 ≤ n) (h1 : n < 2147483648) : IntKind.wrap .i32 n = n := by
  unfold IntKind.wrap
  simp only [IntKind.bits, IntKind.signed]
  have : ((2 ^ 32 : Nat) : Int) = 4294967296 := rfl
  simp only [Bool.true_and]
  split <;> rename_i h <;> simp at h <;> omega
theorem hpI_R {n : Int} (h : -2147483648 ≤ n ∧ n < 2147483648) : hpI n = hpR n := by
  unfold hpI
  rw [wrap_i32 h.1 h.2, argsI_pos]
def okB (op : Nat) (d s o i : Int) : Bool := okS szR hpR (cls op) d s o i
theorem okI_B {op : Nat} {d s o i : Int} (h : InsnR op d s o i) : okI op d s o i = okB op d s o i := by
  rw [okI_S]
  unfold okB okS
  have : immS szI hpI (cls op) i = immS szR hpR (cls op) i := by
    unfold immS
    split <;> first | rfl | exact szI_R _ | exact hpI_R h.i
  rw [this]
end Go.Proofs.Ytidofnpfeibbfaa.M
set_option linter.unusedVariables false
set_option linter.unusedSimpArgs false
set_option linter.unnecessarySimpa false
set_option maxRecDepth 100000
namespace Go.Proofs.Ytidofnpfeibbfaa.M
open Go.Abs
section
variable {M : Mem}
theorem Check_B {op : Nat} {d s o i : Int} (h : InsnR op d s o i) : ∃ M', C 35 [.agg [.int .u8 (op : Int), .int .u8 d, .int .u8 s, .int .i16 o, .int .i32 i]] M = some (.int .i64 (errI (okB op d s o i)), M') ∧ M.Upto M' := by
  rw [← okI_B h]; exact Check_C h
end
end Go.Proofs.Ytidofnpfeibbfaa.M
