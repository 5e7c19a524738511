/- Ytlglggcheffoeaa: functions cut into pieces, with an equation for each cut point (printed by ptgen.py). -/
import Derived.Test.YtlglggcheffoeaaXRen
import Derived.Test.YtlglggcheffoeaaProg
set_option linter.unusedVariables false
set_option maxRecDepth 100000
namespace Go.Proofs.Ytlglggcheffoeaa.M
open Go.Abs
/-! sallyport/sallyportref19.Copy -/
def C8_1 : AC := .ret
def C8_2 : AC := .seq (.reg (.op (some 7) (.mov (.t 3)) (.op (some 2) (.mov (.t 7)) .nil)) []) C8_1
def C8_3 : AC := .seq (.reg (.op (some 4) (.mov (.t 3)) (.op (some 5) (.mov (.t 0)) (.op (some 6) (.app 2 16 (.t 4) (.t 5)) (.op (some 3) (.mov (.t 6)) .nil)))) []) C8_2
def C8_4 : AC := .seq (.reg (.op (some 3) (.mov (.c (.sl none 0 (.known 0)))) .nil) []) C8_3
def C8_5 : AC := .seq (.reg (.op (some 2) (.mov (.c (.sl none 0 (.known 0)))) .nil) []) C8_4
def F8 : AFunc := { ntmps := 8, results := [.tmp 2], body := C8_5 }
noncomputable def p8_0 (call : CallF) (meth : MethF) (x0_1a : Option (Nat × Nat)) (x0_1l : Nat) (x0_1c : Cap) (M : Mem) : Option (AVal × Mem) := run false call meth F8.results [.code C8_5] [some (.sl x0_1a x0_1l x0_1c), none, none, none, none, none, none, none] M
theorem p8_0_eq (call : CallF) (meth : MethF) (x0_1a : Option (Nat × Nat)) (x0_1l : Nat) (x0_1c : Cap) (M : Mem) : p8_0 call meth x0_1a x0_1l x0_1c M = (appK false 2 16 M none 0 (.known 0) (.sl x0_1a x0_1l x0_1c) fun s101a s101l s101c M102 => (some (.sl s101a s101l s101c, M102))) :=
  (seg_run false call meth F8.results 100000 [.code C8_5] _ M).symm.trans (by kernel_rfl)
theorem run8 (call : CallF) (meth : MethF) (x0_1a : Option (Nat × Nat)) (x0_1l : Nat) (x0_1c : Cap) (M : Mem) : run false call meth F8.results [.code F8.body] (frame0 F8 [.sl x0_1a x0_1l x0_1c]) M = p8_0 call meth x0_1a x0_1l x0_1c M := by kernel_rfl
theorem ok8 : okFn Try.prog 8 F8 = true := by kernel_rfl
/-! sallyport/table.Check -/
def C9_1 : AC := .ret
def C9_2 : AC := .seq (.reg (.op (some 2) (.mov (.c (.int .i64 0))) .nil) []) C9_1
def C9_3 : AC := .reg (.op (some 28) (.bin .add (.t 9) (.c (.int .i64 1))) (.op (some 9) (.mov (.t 28)) .nil)) []
def C9_4 : AC := .ret
def C9_5 : AC := .cond (.t 27) (.seq (.reg (.op (some 2) (.mov (.c (.int .i64 190))) .nil) []) C9_4) .skip
def C9_6 : AC := .seq (.drw (.op (some 12) (.mov (.t 3)) (.op (some 13) (.bin .gtr (.t 12) (.c (.int .i64 0))) (.op (some 14) (.mov (.t 13)) (.grp 14 true (.op (some 15) (.mov (.t 0)) (.op (some 16) (.mov (.t 3)) (.op (some 17) (.ixS 2 (.t 15) (.t 16)) (.op (some 18) (.fldA 0 (.t 17)) (.op (some 19) (.load1 (.int .u64) (.t 18)) (.op (some 20) (.mov (.t 0)) (.op (some 21) (.mov (.t 3)) (.op (some 22) (.bin .sub (.t 21) (.c (.int .i64 1))) (.op (some 23) (.ixS 2 (.t 20) (.t 22)) (.op (some 24) (.fldA 0 (.t 23)) (.op (some 25) (.load1 (.int .u64) (.t 24)) (.op (some 26) (.bin .leq (.t 19) (.t 25)) .nil)))))))))))) (.op (some 27) (.pick (.t 14) (.t 26) (.c (.bool false))) .nil))))) [] []) C9_5
def C9_7 : AC := .seq (.block 1 (.seq (.reg (.op (some 11) (.mov (.t 9)) (.op (some 3) (.mov (.t 11)) .nil)) []) C9_6)) C9_3
def C9_8 : AC := .seq (.cond (.t 10) .skip (.exit 0)) C9_7
def C9_9 : AC := .seq (.reg (.op (some 10) (.bin .lss (.t 9) (.t 8)) .nil) []) C9_8
def C9_10 : AC := .kil [1, 2, 3, 4, 5, 6, 7, 10, 11, 12, 13, 14, 15, 16, 17, 18, 19, 20, 21, 22, 23, 24, 25, 26, 27, 28] (.pt C9_9)
def C9_11 : AC := .block 0 (.loop C9_10)
def C9_12 : AC := .seq (.seq (.reg (.op (some 7) (.mov (.t 0)) (.op (some 8) (.len (.t 7)) (.op (some 9) (.mov (.c (.int .i64 0))) .nil))) []) C9_11) C9_2
def C9_13 : AC := .ret
def C9_14 : AC := .cond (.t 6) (.seq (.reg (.op (some 2) (.mov (.c (.int .i64 3))) .nil) []) C9_13) .skip
def C9_15 : AC := .seq (.seq (.reg (.op (some 4) (.mov (.t 0)) (.op (some 5) (.len (.t 4)) (.op (some 6) (.bin .gtr (.t 5) (.c (.int .i64 64))) .nil))) []) C9_14) C9_12
def C9_16 : AC := .seq (.reg (.op (some 2) (.mov (.c (.int .i64 0))) .nil) []) C9_15
def F9 : AFunc := { ntmps := 29, results := [.tmp 2], body := C9_16 }
noncomputable def p9_0 (call : CallF) (meth : MethF) (x0_1a : Option (Nat × Nat)) (x0_1l : Nat) (x0_1c : Cap) (M : Mem) : Option (AVal × Mem) := run false call meth F9.results [.code C9_16] [some (.sl x0_1a x0_1l x0_1c), none, none, none, none, none, none, none, none, none, none, none, none, none, none, none, none, none, none, none, none, none, none, none, none, none, none, none, none] M
noncomputable def p9_1 (call : CallF) (meth : MethF) (x0_101a : Option (Nat × Nat)) (x0_101l : Nat) (x0_101c : Cap) (x8_102 : Int) (x9_103 : Int) (M : Mem) : Option (AVal × Mem) := run false call meth F9.results [.code C9_9, .inLoop C9_10, .inBlock 0, .code C9_2] [some (.sl x0_101a x0_101l x0_101c), none, none, none, none, none, none, none, some (.int .i64 x8_102), some (.int .i64 x9_103), none, none, none, none, none, none, none, none, none, none, none, none, none, none, none, none, none, none, none] M
theorem p9_0_eq (call : CallF) (meth : MethF) (x0_1a : Option (Nat × Nat)) (x0_1l : Nat) (x0_1c : Cap) (M : Mem) : p9_0 call meth x0_1a x0_1l x0_1c M = (cond (decide (((x0_1l : Nat) : Int) > 64)) (some (.int .i64 3, M)) (p9_1 call meth x0_1a x0_1l x0_1c ((x0_1l : Nat) : Int) 0 M)) :=
  (seg_run false call meth F9.results 100000 [.code C9_16] _ M).symm.trans (by kernel_rfl)
theorem p9_1_eq (call : CallF) (meth : MethF) (x0_101a : Option (Nat × Nat)) (x0_101l : Nat) (x0_101c : Cap) (x8_102 : Int) (x9_103 : Int) (M : Mem) : p9_1 call meth x0_101a x0_101l x0_101c x8_102 x9_103 M = (cond (decide (x9_103 < x8_102)) (cond (decide (x9_103 > 0)) (cond (decide (0 ≤ x9_103)) (cond (Nat.blt x9_103.toNat x0_101l) (Option.bind (slPtr x0_101a x0_101c) fun p201 => (Option.bind (M.ldI .u64 p201.1 ((p201.2 + x9_103.toNat * 2) + 0)) fun x202 => (cond (decide (0 ≤ (IntKind.wrap .i64 (x9_103 - 1)))) (cond (Nat.blt ((IntKind.wrap .i64 (x9_103 - 1)).toNat) x0_101l) (Option.bind (slPtr x0_101a x0_101c) fun p203 => (Option.bind (M.ldI .u64 p203.1 ((p203.2 + ((IntKind.wrap .i64 (x9_103 - 1)).toNat) * 2) + 0)) fun x204 => (cond (decide (x202 ≤ x204)) (some (.int .i64 190, M)) (p9_1 call meth x0_101a x0_101l x0_101c x8_102 (IntKind.wrap .i64 (x9_103 + 1)) M)))) none) none))) none) none) (p9_1 call meth x0_101a x0_101l x0_101c x8_102 (IntKind.wrap .i64 (x9_103 + 1)) M)) (some (.int .i64 0, M))) :=
  (seg_run false call meth F9.results 100000 [.code C9_9, .inLoop C9_10, .inBlock 0, .code C9_2] _ M).symm.trans (by kernel_rfl)
theorem run9 (call : CallF) (meth : MethF) (x0_1a : Option (Nat × Nat)) (x0_1l : Nat) (x0_1c : Cap) (M : Mem) : run false call meth F9.results [.code F9.body] (frame0 F9 [.sl x0_1a x0_1l x0_1c]) M = p9_0 call meth x0_1a x0_1l x0_1c M := by kernel_rfl
theorem ok9 : okFn Try.prog 9 F9 = true := by kernel_rfl
/-! sallyport/sallyportref19.Check -/
def C10_1 : AC := .ret
def C10_2 : AC := .seq (.reg (.op (some 2) (.mov (.c (.int .i64 0))) .nil) []) C10_1
def C10_3 : AC := .reg (.op (some 11) (.mov (.t 3)) (.op (some 12) (.bin .add (.t 11) (.c (.int .i64 1))) (.op (some 3) (.mov (.t 12)) .nil))) []
def C10_4 : AC := .ret
def C10_5 : AC := .cond (.t 24) (.seq (.reg (.op (some 2) (.mov (.c (.int .i64 190))) .nil) []) C10_4) .skip
def C10_6 : AC := .seq (.block 1 (.seq (.drw (.op (some 13) (.mov (.t 0)) (.op (some 14) (.mov (.t 3)) (.op (some 15) (.ixS 2 (.t 13) (.t 14)) (.op (some 16) (.fldA 0 (.t 15)) (.op (some 17) (.load1 (.int .u64) (.t 16)) (.op (some 18) (.mov (.t 0)) (.op (some 19) (.mov (.t 3)) (.op (some 20) (.bin .sub (.t 19) (.c (.int .i64 1))) (.op (some 21) (.ixS 2 (.t 18) (.t 20)) (.op (some 22) (.fldA 0 (.t 21)) (.op (some 23) (.load1 (.int .u64) (.t 22)) (.op (some 24) (.bin .leq (.t 17) (.t 23)) .nil)))))))))))) [] []) C10_5)) C10_3
def C10_7 : AC := .cond (.t 10) .skip (.exit 0)
def C10_8 : AC := .seq (.seq (.reg (.op (some 7) (.mov (.t 3)) (.op (some 8) (.mov (.t 0)) (.op (some 9) (.len (.t 8)) (.op (some 10) (.bin .lss (.t 7) (.t 9)) .nil)))) []) C10_7) C10_6
def C10_9 : AC := .kil [1, 2, 4, 5, 6, 7, 8, 9, 10, 11, 12, 13, 14, 15, 16, 17, 18, 19, 20, 21, 22, 23, 24] (.pt C10_8)
def C10_10 : AC := .block 0 (.loop C10_9)
def C10_11 : AC := .seq (.seq (.reg (.op (some 3) (.mov (.c (.int .i64 1))) .nil) []) C10_10) C10_2
def C10_12 : AC := .ret
def C10_13 : AC := .cond (.t 6) (.seq (.reg (.op (some 2) (.mov (.c (.int .i64 3))) .nil) []) C10_12) .skip
def C10_14 : AC := .seq (.seq (.reg (.op (some 4) (.mov (.t 0)) (.op (some 5) (.len (.t 4)) (.op (some 6) (.bin .gtr (.t 5) (.c (.int .i64 64))) .nil))) []) C10_13) C10_11
def C10_15 : AC := .seq (.reg (.op (some 2) (.mov (.c (.int .i64 0))) .nil) []) C10_14
def F10 : AFunc := { ntmps := 25, results := [.tmp 2], body := C10_15 }
noncomputable def p10_0 (call : CallF) (meth : MethF) (x0_1a : Option (Nat × Nat)) (x0_1l : Nat) (x0_1c : Cap) (M : Mem) : Option (AVal × Mem) := run false call meth F10.results [.code C10_15] [some (.sl x0_1a x0_1l x0_1c), none, none, none, none, none, none, none, none, none, none, none, none, none, none, none, none, none, none, none, none, none, none, none, none] M
noncomputable def p10_1 (call : CallF) (meth : MethF) (x0_101a : Option (Nat × Nat)) (x0_101l : Nat) (x0_101c : Cap) (x3_102 : Int) (M : Mem) : Option (AVal × Mem) := run false call meth F10.results [.code C10_8, .inLoop C10_9, .inBlock 0, .code C10_2] [some (.sl x0_101a x0_101l x0_101c), none, none, some (.int .i64 x3_102), none, none, none, none, none, none, none, none, none, none, none, none, none, none, none, none, none, none, none, none, none] M
theorem p10_0_eq (call : CallF) (meth : MethF) (x0_1a : Option (Nat × Nat)) (x0_1l : Nat) (x0_1c : Cap) (M : Mem) : p10_0 call meth x0_1a x0_1l x0_1c M = (cond (decide (((x0_1l : Nat) : Int) > 64)) (some (.int .i64 3, M)) (p10_1 call meth x0_1a x0_1l x0_1c 1 M)) :=
  (seg_run false call meth F10.results 100000 [.code C10_15] _ M).symm.trans (by kernel_rfl)
theorem p10_1_eq (call : CallF) (meth : MethF) (x0_101a : Option (Nat × Nat)) (x0_101l : Nat) (x0_101c : Cap) (x3_102 : Int) (M : Mem) : p10_1 call meth x0_101a x0_101l x0_101c x3_102 M = (cond (decide (x3_102 < ((x0_101l : Nat) : Int))) (cond (decide (0 ≤ x3_102)) (cond (Nat.blt x3_102.toNat x0_101l) (Option.bind (slPtr x0_101a x0_101c) fun p201 => (Option.bind (M.ldI .u64 p201.1 ((p201.2 + x3_102.toNat * 2) + 0)) fun x202 => (cond (decide (0 ≤ (IntKind.wrap .i64 (x3_102 - 1)))) (cond (Nat.blt ((IntKind.wrap .i64 (x3_102 - 1)).toNat) x0_101l) (Option.bind (slPtr x0_101a x0_101c) fun p203 => (Option.bind (M.ldI .u64 p203.1 ((p203.2 + ((IntKind.wrap .i64 (x3_102 - 1)).toNat) * 2) + 0)) fun x204 => (cond (decide (x202 ≤ x204)) (some (.int .i64 190, M)) (p10_1 call meth x0_101a x0_101l x0_101c (IntKind.wrap .i64 (x3_102 + 1)) M)))) none) none))) none) none) (some (.int .i64 0, M))) :=
  (seg_run false call meth F10.results 100000 [.code C10_8, .inLoop C10_9, .inBlock 0, .code C10_2] _ M).symm.trans (by kernel_rfl)
theorem run10 (call : CallF) (meth : MethF) (x0_1a : Option (Nat × Nat)) (x0_1l : Nat) (x0_1c : Cap) (M : Mem) : run false call meth F10.results [.code F10.body] (frame0 F10 [.sl x0_1a x0_1l x0_1c]) M = p10_0 call meth x0_1a x0_1l x0_1c M := by kernel_rfl
theorem ok10 : okFn Try.prog 10 F10 = true := by kernel_rfl
/-! sallyport/table.Find -/
def C11_1 : AC := .ret
def C11_2 : AC := .seq (.reg (.op (some 4) (.mov (.c (.int .u64 0))) (.op (some 5) (.mov (.c (.bool false))) .nil)) []) C11_1
def C11_3 : AC := .ret
def C11_4 : AC := .cond (.t 37) (.reg (.op (some 41) (.mov (.t 8)) (.op (some 42) (.bin .add (.t 41) (.c (.int .i64 1))) (.op (some 6) (.mov (.t 42)) .nil))) []) (.reg (.op (some 27) (.mov (.t 8)) (.op (some 7) (.mov (.t 27)) .nil)) [])
def C11_5 : AC := .cond (.t 28) (.seq (.reg (.op (some 32) (.mov (.t 0)) (.op (some 33) (.mov (.t 8)) (.op (some 34) (.ixS 2 (.t 32) (.t 33)) (.op (some 35) (.fldA 1 (.t 34)) (.op (some 36) (.load1 (.int .u64) (.t 35)) (.op (some 4) (.mov (.t 36)) (.op (some 5) (.mov (.c (.bool true))) .nil))))))) []) C11_3) (.seq (.reg (.op (some 38) (.mov (.t 9)) (.op (some 39) (.mov (.t 1)) (.op (some 40) (.bin .lss (.t 38) (.t 39)) (.op (some 37) (.mov (.t 40)) .nil)))) []) C11_4)
def C11_6 : AC := .block 2 (.seq (.reg (.op (some 29) (.mov (.t 9)) (.op (some 30) (.mov (.t 1)) (.op (some 31) (.bin .eql (.t 29) (.t 30)) (.op (some 28) (.mov (.t 31)) .nil)))) []) C11_5)
def C11_7 : AC := .seq (.reg (.op (some 22) (.mov (.t 0)) (.op (some 23) (.mov (.t 8)) (.op (some 24) (.ixS 2 (.t 22) (.t 23)) (.op (some 25) (.fldA 0 (.t 24)) (.op (some 26) (.load1 (.int .u64) (.t 25)) (.op (some 9) (.mov (.t 26)) .nil)))))) []) C11_6
def C11_8 : AC := .block 1 (.seq (.reg (.op (some 18) (.mov (.t 6)) (.op (some 19) (.mov (.t 7)) (.op (some 20) (.bin .add (.t 18) (.t 19)) (.op (some 21) (.bin .quo (.t 20) (.c (.int .i64 2))) (.op (some 8) (.mov (.t 21)) .nil))))) []) C11_7)
def C11_9 : AC := .cond (.t 17) .skip (.exit 0)
def C11_10 : AC := .seq (.seq (.reg (.op (some 15) (.mov (.t 6)) (.op (some 16) (.mov (.t 7)) (.op (some 17) (.bin .lss (.t 15) (.t 16)) .nil))) []) C11_9) C11_8
def C11_11 : AC := .kil [2, 3, 4, 5, 8, 9, 10, 11, 12, 13, 14, 15, 16, 17, 18, 19, 20, 21, 22, 23, 24, 25, 26, 27, 28, 29, 30, 31, 32, 33, 34, 35, 36, 37, 38, 39, 40, 41, 42] (.pt C11_10)
def C11_12 : AC := .seq (.block 0 (.loop C11_11)) C11_2
def C11_13 : AC := .seq (.reg (.op (some 13) (.mov (.t 0)) (.op (some 14) (.len (.t 13)) (.op (some 6) (.mov (.c (.int .i64 0))) (.op (some 7) (.mov (.t 14)) .nil)))) []) C11_12
def C11_14 : AC := .ret
def C11_15 : AC := .cond (.t 12) (.seq (.reg (.op (some 4) (.mov (.c (.int .u64 0))) (.op (some 5) (.mov (.c (.bool false))) .nil)) []) C11_14) .skip
def C11_16 : AC := .seq (.seq (.reg (.op (some 10) (.mov (.t 0)) (.op (some 11) (.call 9 [(.t 10)] (.r (.one (.int .i64)))) (.op (some 12) (.bin .neq (.t 11) (.c (.int .i64 0))) .nil))) []) C11_15) C11_13
def C11_17 : AC := .seq (.reg (.op (some 4) (.mov (.c (.int .u64 0))) (.op (some 5) (.mov (.c (.bool false))) .nil)) []) C11_16
def F11 : AFunc := { ntmps := 43, results := [.tmp 4, .tmp 5], body := C11_17 }
noncomputable def p11_0 (call : CallF) (meth : MethF) (x0_1a : Option (Nat × Nat)) (x0_1l : Nat) (x0_1c : Cap) (x1_2 : Int) (M : Mem) : Option (AVal × Mem) := run false call meth F11.results [.code C11_17] [some (.sl x0_1a x0_1l x0_1c), some (.int .u64 x1_2), none, none, none, none, none, none, none, none, none, none, none, none, none, none, none, none, none, none, none, none, none, none, none, none, none, none, none, none, none, none, none, none, none, none, none, none, none, none, none, none, none] M
noncomputable def p11_1 (call : CallF) (meth : MethF) (x0_103a : Option (Nat × Nat)) (x0_103l : Nat) (x0_103c : Cap) (x1_104 : Int) (x6_105 : Int) (x7_106 : Int) (M : Mem) : Option (AVal × Mem) := run false call meth F11.results [.code C11_10, .inLoop C11_11, .inBlock 0, .code C11_2] [some (.sl x0_103a x0_103l x0_103c), some (.int .u64 x1_104), none, none, none, none, some (.int .i64 x6_105), some (.int .i64 x7_106), none, none, none, none, none, none, none, none, none, none, none, none, none, none, none, none, none, none, none, none, none, none, none, none, none, none, none, none, none, none, none, none, none, none, none] M
theorem p11_0_eq (call : CallF) (meth : MethF) (x0_1a : Option (Nat × Nat)) (x0_1l : Nat) (x0_1c : Cap) (x1_2 : Int) (M : Mem) : p11_0 call meth x0_1a x0_1l x0_1c x1_2 M = (Option.bind (call 9 [.sl x0_1a x0_1l x0_1c] M) fun r101 => (Option.bind (r101.1.int? .i64) fun x102 => (cond (x102 != 0) (some (.tup [.int .u64 0, .bool false], r101.2)) (p11_1 call meth x0_1a x0_1l x0_1c x1_2 0 ((x0_1l : Nat) : Int) r101.2)))) :=
  (seg_run false call meth F11.results 100000 [.code C11_17] _ M).symm.trans (by kernel_rfl)
theorem p11_1_eq (call : CallF) (meth : MethF) (x0_103a : Option (Nat × Nat)) (x0_103l : Nat) (x0_103c : Cap) (x1_104 : Int) (x6_105 : Int) (x7_106 : Int) (M : Mem) : p11_1 call meth x0_103a x0_103l x0_103c x1_104 x6_105 x7_106 M = (cond (decide (x6_105 < x7_106)) (cond (decide (0 ≤ (IntKind.wrap .i64 (Int.tdiv (IntKind.wrap .i64 (x6_105 + x7_106)) 2)))) (cond (Nat.blt ((IntKind.wrap .i64 (Int.tdiv (IntKind.wrap .i64 (x6_105 + x7_106)) 2)).toNat) x0_103l) (Option.bind (slPtr x0_103a x0_103c) fun p201 => (Option.bind (M.ldI .u64 p201.1 ((p201.2 + ((IntKind.wrap .i64 (Int.tdiv (IntKind.wrap .i64 (x6_105 + x7_106)) 2)).toNat) * 2) + 0)) fun x202 => (cond (x202 == x1_104) (cond (decide (0 ≤ (IntKind.wrap .i64 (Int.tdiv (IntKind.wrap .i64 (x6_105 + x7_106)) 2)))) (cond (Nat.blt ((IntKind.wrap .i64 (Int.tdiv (IntKind.wrap .i64 (x6_105 + x7_106)) 2)).toNat) x0_103l) (Option.bind (slPtr x0_103a x0_103c) fun p203 => (Option.bind (M.ldI .u64 p203.1 ((p203.2 + ((IntKind.wrap .i64 (Int.tdiv (IntKind.wrap .i64 (x6_105 + x7_106)) 2)).toNat) * 2) + 1)) fun x204 => (some (.tup [.int .u64 x204, .bool true], M)))) none) none) (cond (decide (x202 < x1_104)) (p11_1 call meth x0_103a x0_103l x0_103c x1_104 (IntKind.wrap .i64 ((IntKind.wrap .i64 (Int.tdiv (IntKind.wrap .i64 (x6_105 + x7_106)) 2)) + 1)) x7_106 M) (p11_1 call meth x0_103a x0_103l x0_103c x1_104 x6_105 (IntKind.wrap .i64 (Int.tdiv (IntKind.wrap .i64 (x6_105 + x7_106)) 2)) M))))) none) none) (some (.tup [.int .u64 0, .bool false], M))) :=
  (seg_run false call meth F11.results 100000 [.code C11_10, .inLoop C11_11, .inBlock 0, .code C11_2] _ M).symm.trans (by kernel_rfl)
theorem run11 (call : CallF) (meth : MethF) (x0_1a : Option (Nat × Nat)) (x0_1l : Nat) (x0_1c : Cap) (x1_2 : Int) (M : Mem) : run false call meth F11.results [.code F11.body] (frame0 F11 [.sl x0_1a x0_1l x0_1c, .int .u64 x1_2]) M = p11_0 call meth x0_1a x0_1l x0_1c x1_2 M := by kernel_rfl
theorem ok11 : okFn Try.prog 11 F11 = true := by kernel_rfl
/-! sallyport/sallyportref19.Find -/
def C12_1 : AC := .ret
def C12_2 : AC := .seq (.reg (.op (some 4) (.mov (.c (.int .u64 0))) (.op (some 5) (.mov (.c (.bool false))) .nil)) []) C12_1
def C12_3 : AC := .reg (.op (some 14) (.mov (.t 6)) (.op (some 15) (.bin .add (.t 14) (.c (.int .i64 1))) (.op (some 6) (.mov (.t 15)) .nil))) []
def C12_4 : AC := .ret
def C12_5 : AC := .cond (.t 22) (.seq (.reg (.op (some 23) (.mov (.t 0)) (.op (some 24) (.mov (.t 6)) (.op (some 25) (.ixS 2 (.t 23) (.t 24)) (.op (some 26) (.fldA 1 (.t 25)) (.op (some 27) (.load1 (.int .u64) (.t 26)) (.op (some 4) (.mov (.t 27)) (.op (some 5) (.mov (.c (.bool true))) .nil))))))) []) C12_4) .skip
def C12_6 : AC := .seq (.block 1 (.seq (.reg (.op (some 16) (.mov (.t 0)) (.op (some 17) (.mov (.t 6)) (.op (some 18) (.ixS 2 (.t 16) (.t 17)) (.op (some 19) (.fldA 0 (.t 18)) (.op (some 20) (.load1 (.int .u64) (.t 19)) (.op (some 21) (.mov (.t 1)) (.op (some 22) (.bin .eql (.t 20) (.t 21)) .nil))))))) []) C12_5)) C12_3
def C12_7 : AC := .cond (.t 13) .skip (.exit 0)
def C12_8 : AC := .seq (.seq (.reg (.op (some 10) (.mov (.t 6)) (.op (some 11) (.mov (.t 0)) (.op (some 12) (.len (.t 11)) (.op (some 13) (.bin .lss (.t 10) (.t 12)) .nil)))) []) C12_7) C12_6
def C12_9 : AC := .kil [2, 3, 4, 5, 7, 8, 9, 10, 11, 12, 13, 14, 15, 16, 17, 18, 19, 20, 21, 22, 23, 24, 25, 26, 27] (.pt C12_8)
def C12_10 : AC := .block 0 (.loop C12_9)
def C12_11 : AC := .seq (.seq (.reg (.op (some 6) (.mov (.c (.int .i64 0))) .nil) []) C12_10) C12_2
def C12_12 : AC := .ret
def C12_13 : AC := .cond (.t 9) (.seq (.reg (.op (some 4) (.mov (.c (.int .u64 0))) (.op (some 5) (.mov (.c (.bool false))) .nil)) []) C12_12) .skip
def C12_14 : AC := .seq (.seq (.reg (.op (some 7) (.mov (.t 0)) (.op (some 8) (.call 10 [(.t 7)] (.r (.one (.int .i64)))) (.op (some 9) (.bin .neq (.t 8) (.c (.int .i64 0))) .nil))) []) C12_13) C12_11
def C12_15 : AC := .seq (.reg (.op (some 4) (.mov (.c (.int .u64 0))) (.op (some 5) (.mov (.c (.bool false))) .nil)) []) C12_14
def F12 : AFunc := { ntmps := 28, results := [.tmp 4, .tmp 5], body := C12_15 }
noncomputable def p12_0 (call : CallF) (meth : MethF) (x0_1a : Option (Nat × Nat)) (x0_1l : Nat) (x0_1c : Cap) (x1_2 : Int) (M : Mem) : Option (AVal × Mem) := run false call meth F12.results [.code C12_15] [some (.sl x0_1a x0_1l x0_1c), some (.int .u64 x1_2), none, none, none, none, none, none, none, none, none, none, none, none, none, none, none, none, none, none, none, none, none, none, none, none, none, none] M
noncomputable def p12_1 (call : CallF) (meth : MethF) (x0_103a : Option (Nat × Nat)) (x0_103l : Nat) (x0_103c : Cap) (x1_104 : Int) (x6_105 : Int) (M : Mem) : Option (AVal × Mem) := run false call meth F12.results [.code C12_8, .inLoop C12_9, .inBlock 0, .code C12_2] [some (.sl x0_103a x0_103l x0_103c), some (.int .u64 x1_104), none, none, none, none, some (.int .i64 x6_105), none, none, none, none, none, none, none, none, none, none, none, none, none, none, none, none, none, none, none, none, none] M
theorem p12_0_eq (call : CallF) (meth : MethF) (x0_1a : Option (Nat × Nat)) (x0_1l : Nat) (x0_1c : Cap) (x1_2 : Int) (M : Mem) : p12_0 call meth x0_1a x0_1l x0_1c x1_2 M = (Option.bind (call 10 [.sl x0_1a x0_1l x0_1c] M) fun r101 => (Option.bind (r101.1.int? .i64) fun x102 => (cond (x102 != 0) (some (.tup [.int .u64 0, .bool false], r101.2)) (p12_1 call meth x0_1a x0_1l x0_1c x1_2 0 r101.2)))) :=
  (seg_run false call meth F12.results 100000 [.code C12_15] _ M).symm.trans (by kernel_rfl)
theorem p12_1_eq (call : CallF) (meth : MethF) (x0_103a : Option (Nat × Nat)) (x0_103l : Nat) (x0_103c : Cap) (x1_104 : Int) (x6_105 : Int) (M : Mem) : p12_1 call meth x0_103a x0_103l x0_103c x1_104 x6_105 M = (cond (decide (x6_105 < ((x0_103l : Nat) : Int))) (cond (decide (0 ≤ x6_105)) (cond (Nat.blt x6_105.toNat x0_103l) (Option.bind (slPtr x0_103a x0_103c) fun p201 => (Option.bind (M.ldI .u64 p201.1 ((p201.2 + x6_105.toNat * 2) + 0)) fun x202 => (cond (x202 == x1_104) (cond (decide (0 ≤ x6_105)) (cond (Nat.blt x6_105.toNat x0_103l) (Option.bind (slPtr x0_103a x0_103c) fun p203 => (Option.bind (M.ldI .u64 p203.1 ((p203.2 + x6_105.toNat * 2) + 1)) fun x204 => (some (.tup [.int .u64 x204, .bool true], M)))) none) none) (p12_1 call meth x0_103a x0_103l x0_103c x1_104 (IntKind.wrap .i64 (x6_105 + 1)) M)))) none) none) (some (.tup [.int .u64 0, .bool false], M))) :=
  (seg_run false call meth F12.results 100000 [.code C12_8, .inLoop C12_9, .inBlock 0, .code C12_2] _ M).symm.trans (by kernel_rfl)
theorem run12 (call : CallF) (meth : MethF) (x0_1a : Option (Nat × Nat)) (x0_1l : Nat) (x0_1c : Cap) (x1_2 : Int) (M : Mem) : run false call meth F12.results [.code F12.body] (frame0 F12 [.sl x0_1a x0_1l x0_1c, .int .u64 x1_2]) M = p12_0 call meth x0_1a x0_1l x0_1c x1_2 M := by kernel_rfl
theorem ok12 : okFn Try.prog 12 F12 = true := by kernel_rfl
/-! sallyport/sallyportref19.Same -/
def C13_1 : AC := .ret
def C13_2 : AC := .seq (.reg (.op (some 4) (.mov (.c (.bool true))) .nil) []) C13_1
def C13_3 : AC := .reg (.op (some 15) (.mov (.t 5)) (.op (some 16) (.bin .add (.t 15) (.c (.int .i64 1))) (.op (some 5) (.mov (.t 16)) .nil))) []
def C13_4 : AC := .ret
def C13_5 : AC := .cond (.t 25) (.seq (.reg (.op (some 4) (.mov (.c (.bool false))) .nil) []) C13_4) .skip
def C13_6 : AC := .seq (.block 1 (.seq (.drw (.op (some 17) (.mov (.t 0)) (.op (some 18) (.mov (.t 5)) (.op (some 19) (.ixS 2 (.t 17) (.t 18)) (.op (some 20) (.loadA [.int .u64, .int .u64] (.t 19)) (.op (some 21) (.mov (.t 1)) (.op (some 22) (.mov (.t 5)) (.op (some 23) (.ixS 2 (.t 21) (.t 22)) (.op (some 24) (.loadA [.int .u64, .int .u64] (.t 23)) (.op (some 25) (.eq true (.agg [(0, .int .u64), (1, .int .u64)]) (.t 20) (.t 24)) .nil))))))))) [] []) C13_5)) C13_3
def C13_7 : AC := .cond (.t 14) .skip (.exit 0)
def C13_8 : AC := .seq (.seq (.reg (.op (some 11) (.mov (.t 5)) (.op (some 12) (.mov (.t 0)) (.op (some 13) (.len (.t 12)) (.op (some 14) (.bin .lss (.t 11) (.t 13)) .nil)))) []) C13_7) C13_6
def C13_9 : AC := .kil [2, 3, 4, 6, 7, 8, 9, 10, 11, 12, 13, 14, 15, 16, 17, 18, 19, 20, 21, 22, 23, 24, 25] (.pt C13_8)
def C13_10 : AC := .block 0 (.loop C13_9)
def C13_11 : AC := .seq (.seq (.reg (.op (some 5) (.mov (.c (.int .i64 0))) .nil) []) C13_10) C13_2
def C13_12 : AC := .ret
def C13_13 : AC := .cond (.t 10) (.seq (.reg (.op (some 4) (.mov (.c (.bool false))) .nil) []) C13_12) .skip
def C13_14 : AC := .seq (.seq (.reg (.op (some 6) (.mov (.t 0)) (.op (some 7) (.len (.t 6)) (.op (some 8) (.mov (.t 1)) (.op (some 9) (.len (.t 8)) (.op (some 10) (.bin .neq (.t 7) (.t 9)) .nil))))) []) C13_13) C13_11
def C13_15 : AC := .seq (.reg (.op (some 4) (.mov (.c (.bool false))) .nil) []) C13_14
def F13 : AFunc := { ntmps := 26, results := [.tmp 4], body := C13_15 }
noncomputable def p13_0 (call : CallF) (meth : MethF) (x0_1a : Option (Nat × Nat)) (x0_1l : Nat) (x0_1c : Cap) (x1_2a : Option (Nat × Nat)) (x1_2l : Nat) (x1_2c : Cap) (M : Mem) : Option (AVal × Mem) := run false call meth F13.results [.code C13_15] [some (.sl x0_1a x0_1l x0_1c), some (.sl x1_2a x1_2l x1_2c), none, none, none, none, none, none, none, none, none, none, none, none, none, none, none, none, none, none, none, none, none, none, none, none] M
noncomputable def p13_1 (call : CallF) (meth : MethF) (x0_101a : Option (Nat × Nat)) (x0_101l : Nat) (x0_101c : Cap) (x1_102a : Option (Nat × Nat)) (x1_102l : Nat) (x1_102c : Cap) (x5_103 : Int) (M : Mem) : Option (AVal × Mem) := run false call meth F13.results [.code C13_8, .inLoop C13_9, .inBlock 0, .code C13_2] [some (.sl x0_101a x0_101l x0_101c), some (.sl x1_102a x1_102l x1_102c), none, none, none, some (.int .i64 x5_103), none, none, none, none, none, none, none, none, none, none, none, none, none, none, none, none, none, none, none, none] M
theorem p13_0_eq (call : CallF) (meth : MethF) (x0_1a : Option (Nat × Nat)) (x0_1l : Nat) (x0_1c : Cap) (x1_2a : Option (Nat × Nat)) (x1_2l : Nat) (x1_2c : Cap) (M : Mem) : p13_0 call meth x0_1a x0_1l x0_1c x1_2a x1_2l x1_2c M = (cond (((x0_1l : Nat) : Int) != ((x1_2l : Nat) : Int)) (some (.bool false, M)) (p13_1 call meth x0_1a x0_1l x0_1c x1_2a x1_2l x1_2c 0 M)) :=
  (seg_run false call meth F13.results 100000 [.code C13_15] _ M).symm.trans (by kernel_rfl)
theorem p13_1_eq (call : CallF) (meth : MethF) (x0_101a : Option (Nat × Nat)) (x0_101l : Nat) (x0_101c : Cap) (x1_102a : Option (Nat × Nat)) (x1_102l : Nat) (x1_102c : Cap) (x5_103 : Int) (M : Mem) : p13_1 call meth x0_101a x0_101l x0_101c x1_102a x1_102l x1_102c x5_103 M = (cond (decide (x5_103 < ((x0_101l : Nat) : Int))) (cond (decide (0 ≤ x5_103)) (cond (Nat.blt x5_103.toNat x0_101l) (Option.bind (slPtr x0_101a x0_101c) fun p201 => (Option.bind (M.ldI .u64 p201.1 (p201.2 + x5_103.toNat * 2)) fun x202 => (Option.bind (M.ldI .u64 p201.1 ((p201.2 + x5_103.toNat * 2) + 1)) fun x203 => (cond (decide (0 ≤ x5_103)) (cond (Nat.blt x5_103.toNat x1_102l) (Option.bind (slPtr x1_102a x1_102c) fun p204 => (Option.bind (M.ldI .u64 p204.1 (p204.2 + x5_103.toNat * 2)) fun x205 => (Option.bind (M.ldI .u64 p204.1 ((p204.2 + x5_103.toNat * 2) + 1)) fun x206 => (cond (!((x202 == x205) && ((x203 == x206) && true))) (some (.bool false, M)) (p13_1 call meth x0_101a x0_101l x0_101c x1_102a x1_102l x1_102c (IntKind.wrap .i64 (x5_103 + 1)) M))))) none) none)))) none) none) (some (.bool true, M))) :=
  (seg_run false call meth F13.results 100000 [.code C13_8, .inLoop C13_9, .inBlock 0, .code C13_2] _ M).symm.trans (by kernel_rfl)
theorem run13 (call : CallF) (meth : MethF) (x0_1a : Option (Nat × Nat)) (x0_1l : Nat) (x0_1c : Cap) (x1_2a : Option (Nat × Nat)) (x1_2l : Nat) (x1_2c : Cap) (M : Mem) : run false call meth F13.results [.code F13.body] (frame0 F13 [.sl x0_1a x0_1l x0_1c, .sl x1_2a x1_2l x1_2c]) M = p13_0 call meth x0_1a x0_1l x0_1c x1_2a x1_2l x1_2c M := by kernel_rfl
theorem ok13 : okFn Try.prog 13 F13 = true := by kernel_rfl
end Go.Proofs.Ytlglggcheffoeaa.M
