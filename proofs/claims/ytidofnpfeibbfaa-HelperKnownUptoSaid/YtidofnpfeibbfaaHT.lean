import Derived.Test.YtidofnpfeibbfaaHU
import Derived.Test.YtidofnpfeibbfaaXFc
import Derived.Test.YtidofnpfeibbfaaXLaw
set_option linter.unusedVariables false
set_option linter.unusedSimpArgs false
set_option linter.unnecessarySimpa false
set_option maxRecDepth 100000
namespace Go.Proofs.Ytidofnpfeibbfaa.M
open Go.Abs
theorem works24_C : ∃ M', C 12 [] Mem.empty = some (.bool true, M') := whole_says (n := 4000) (by kernel_rfl)
theorem callR {i : Int} (h : -2147483648 ≤ i ∧ i < 2147483648) : InsnR 35 0 0 0 i := ⟨by omega, by omega, by omega, by omega, h⟩
theorem call_ok (i : Int) : okB 35 0 0 0 i = hpR i := by
  unfold okB okS
  have : cls 35 = 13 := rfl
  rw [this]
  have e1 : Nat.beq 13 0 = false := rfl
  have e2 : decide ((0 : Int) > 9) = false := rfl
  have e3 : hasD 13 = false := rfl
  have e4 : hasS 13 = false := rfl
  have e5 : decide ((0 : Int) > 0) = false := rfl
  have e6 : offS 13 0 = true := rfl
  have e7 : immS szR hpR 13 i = hpR i := rfl
  rw [e1, e2, e3, e4, e5, e6, e7]
  cases hpR i <;> rfl
theorem call_regs {i : Int} (h : hpR i = true) : ((regs 35 0 0 0 i).length : Int) = argsI i := by
  unfold regs
  rw [call_ok, h, cond_true]
  have ha := argsI_le i
  have hs := args_same h
  have hr := argsR_le i
  have e : nums (rdB 35 0 0 i) 0 10 = nums (fun k => decide (1 ≤ k) && decide ((k : Int) ≤ argsI i)) 0 10 := by
    refine nums_congr 10 0 (fun k _ _ => ?_)
    unfold rdB
    have e1 : hasS (cls 35) = false := rfl
    have e2 : hasD (cls 35) = false := rfl
    have e3 : Nat.beq 35 36 = false := rfl
    have e4 : Nat.beq 35 35 = true := rfl
    rw [e1, e2, e3, e4]
    simp only [Bool.false_and, Bool.false_or, Bool.true_and]
  rw [e]
  generalize argsI i = a at ha hs
  have : a = 1 ∨ a = 2 ∨ a = 3 := by omega
  rcases this with rfl | rfl | rfl <;> rfl
def tellA (i : Int) : List AVal := cond (hpR i) [.int .i64 (argsI i), .bool true] [.int .i64 0, .bool false]
theorem HArgs_C {i : Int} (h : -2147483648 ≤ i ∧ i < 2147483648) : ∃ M', C 8 [.int .i32 i] Mem.empty = some (.tup (tellA i), M') := by
  have hE := p8_0_eq C prog.meth i Mem.empty
  have hR := callR h
  obtain ⟨M1, e1, g1, u1, n1⟩ := alloc_at Mem.empty ⟨[.int .u8 0, .int .u8 0, .int .u8 0, .int .i16 0, .int .i32 0], .fixed⟩
  obtain ⟨M2, s2, g2, n2, b2⟩ := st_at (i := 0) (vs := [.int .u8 35, .int .u8 0, .int .u8 0, .int .i16 0, .int .i32 i]) g1 (by simp)
  have g2' : M2.get Mem.empty.n = some ⟨[.int .u8 35, .int .u8 0, .int .u8 0, .int .i16 0, .int .i32 i], .fixed⟩ := g2
  obtain ⟨Mc, cc, _⟩ := Check_B (M := Mem.empty) hR
  obtain ⟨M3, v, cr, u3, ho, _⟩ := Reads_C (M := M2) hR
  have e35 : ((35 : Nat) : Int) = 35 := rfl
  rw [e35, call_ok] at cc
  rw [e35] at cr
  simp only [e1, s2, ldI_at g2', int?_int, rvs, Int.reduceBEq, Int.reduceBNe, Int.cast_ofNat_Int] at hE
  rw [cc, Option.bind_some] at hE
  simp only [int?_int, rvs, Int.reduceBEq, Int.reduceBNe, Int.cast_ofNat_Int] at hE
  unfold tellA
  cases hp : hpR i with
  | false =>
    rw [hp] at hE
    exact ⟨M2, c8 hE⟩
  | true =>
    have e0 : (errI true != 0) = false := rfl
    rw [hp, e0, cond_false] at hE
    rw [cr, Option.bind_some] at hE
    simp only [int?_int, rvs, Int.reduceBEq, Int.reduceBNe, Int.cast_ofNat_Int] at hE
    have hl := ho.1
    have := call_regs hp
    have e2 : ((v.2.1 : Nat) : Int) = argsI i := by omega
    rw [e2] at hE
    exact ⟨M3, c8 hE⟩
end Go.Proofs.Ytidofnpfeibbfaa.M
