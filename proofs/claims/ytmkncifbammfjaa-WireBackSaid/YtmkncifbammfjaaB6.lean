import Derived.Test.YtmkncifbammfjaaXRen
import Derived.Test.YtmkncifbammfjaaProg
set_option linter.unusedVariables false
set_option maxRecDepth 100000
namespace Go.Proofs.Ytmkncifbammfjaa.M
open Go.Abs
def C6_1 : AC := .ret
def C6_2 : AC := .seq (.reg (.op (some 82) (.mov (.t 19)) (.op (some 83) (.bin .neq (.t 82) (.c (.int .i64 0))) (.op (some 6) (.mov (.t 83)) .nil))) []) C6_1
def C6_3 : AC := .seq (.reg (.op (some 77) (.mov (.t 16)) (.op (some 78) (.call 17 [(.t 77)] (.tup [.agg [.sl, .sl], .one (.int .i64), .one (.int .i64)])) (.op (some 76) (.mov (.t 78)) (.op (some 79) (.ext (.t 76) 0) (.op (some 80) (.ext (.t 76) 1) (.op (some 81) (.ext (.t 76) 2) (.op (some 17) (.alloc [.sl none 0 (.known 0), .sl none 0 (.known 0)]) (.op none (.store 2 (.t 17) (.t 79)) (.op (some 18) (.mov (.t 80)) (.op (some 19) (.mov (.t 81)) .nil)))))))))) []) C6_2
def C6_4 : AC := .seq (.reg (.op (some 67) (.mov (.t 16)) (.op (some 68) (.mov (.t 9)) (.op (some 69) (.mov (.t 16)) (.op (some 70) (.mov (.t 9)) (.op (some 71) (.ixS 1 (.t 69) (.t 70)) (.op (some 72) (.load1 (.int .u8) (.t 71)) (.op (some 73) (.mov (.t 2)) (.op (some 74) (.bin .xor (.t 72) (.t 73)) (.op (some 75) (.ixS 1 (.t 67) (.t 68)) (.op none (.store 1 (.t 75) (.t 74)) .nil)))))))))) []) C6_3
def C6_5 : AC := .seq (.reg (.op (some 65) (.mov (.t 7)) (.op (some 66) (.call 16 [(.t 65)] (.r (.one .sl))) (.op (some 16) (.mov (.t 66)) .nil))) []) C6_4
def C6_6 : AC := .ret
def C6_7 : AC := .cond (.t 64) (.seq (.reg (.op (some 6) (.mov (.c (.bool true))) .nil) []) C6_6) .skip
def C6_8 : AC := .seq (.seq (.reg (.op (some 63) (.mov (.t 2)) (.op (some 64) (.bin .eql (.t 63) (.c (.int .u8 0))) .nil)) []) C6_7) C6_5
def C6_9 : AC := .kil [0, 1, 3, 4, 5, 6, 8, 10, 11, 12, 13, 14, 15, 16, 17, 18, 19, 20, 21, 22, 23, 24, 25, 26, 27, 28, 29, 30, 31, 32, 33, 34, 35, 36, 37, 38, 39, 40, 41, 42, 43, 44, 45, 46, 47, 48, 49, 50, 51, 52, 53, 54, 55, 56, 57, 58, 59, 60, 61, 62, 63, 64, 65, 66, 67, 68, 69, 70, 71, 72, 73, 74, 75, 76, 77, 78, 79, 80, 81, 82, 83] (.pt C6_8)
def C6_10 : AC := .ret
def C6_11 : AC := .cond (.t 62) (.seq (.reg (.op (some 6) (.mov (.c (.bool false))) .nil) []) C6_10) .skip
def C6_12 : AC := .seq (.seq (.reg (.op (some 51) (.mov (.t 12)) (.op (some 52) (.bin .neq (.t 51) (.c (.int .i64 6))) (.op (some 53) (.mov (.t 52)) (.grp 53 false (.op (some 54) (.mov (.t 15)) (.op (some 55) (.bin .neq (.t 54) (.c (.int .i64 200))) .nil)) (.op (some 56) (.pick (.t 53) (.c (.bool true)) (.t 55)) (.op (some 57) (.mov (.t 56)) (.grp 57 false (.op (some 58) (.mov (.t 14)) (.op (some 59) (.mov (.t 7)) (.op (some 60) (.len (.t 59)) (.op (some 61) (.bin .neq (.t 58) (.t 60)) .nil)))) (.op (some 62) (.pick (.t 57) (.c (.bool true)) (.t 61)) .nil)))))))) []) C6_11) C6_9
def C6_13 : AC := .seq (.reg (.op (some 42) (.mov (.t 7)) (.op (some 43) (.call 16 [(.t 42)] (.r (.one .sl))) (.op (some 44) (.mov (.t 2)) (.op (some 45) (.bslice [.int .u8 0] [(0, 1, (.t 44))] 1) (.op (some 46) (.app 1 1 (.t 43) (.t 45)) (.op (some 47) (.call 17 [(.t 46)] (.tup [.agg [.sl, .sl], .one (.int .i64), .one (.int .i64)])) (.op (some 41) (.mov (.t 47)) (.op (some 48) (.ext (.t 41) 0) (.op (some 49) (.ext (.t 41) 1) (.op (some 50) (.ext (.t 41) 2) (.op (some 13) (.alloc [.sl none 0 (.known 0), .sl none 0 (.known 0)]) (.op none (.store 2 (.t 13) (.t 48)) (.op (some 14) (.mov (.t 49)) (.op (some 15) (.mov (.t 50)) .nil)))))))))))))) []) C6_12
def C6_14 : AC := .seq (.reg (.op (some 34) (.mov (.t 7)) (.op (some 35) (.mov (.t 9)) (.op (some 36) (.slc 1 (.t 34) none (some (.t 35)) none) (.op (some 37) (.call 17 [(.t 36)] (.tup [.agg [.sl, .sl], .one (.int .i64), .one (.int .i64)])) (.op (some 33) (.mov (.t 37)) (.op (some 38) (.ext (.t 33) 0) (.op (some 39) (.ext (.t 33) 1) (.op (some 40) (.ext (.t 33) 2) (.op (some 10) (.alloc [.sl none 0 (.known 0), .sl none 0 (.known 0)]) (.op none (.store 2 (.t 10) (.t 38)) (.op (some 11) (.mov (.t 39)) (.op (some 12) (.mov (.t 40)) .nil)))))))))))) []) C6_13
def C6_15 : AC := .seq (.reg (.op (some 29) (.mov (.t 1)) (.op (some 30) (.mov (.t 7)) (.op (some 31) (.len (.t 30)) (.op (some 32) (.callP 20 [(.t 29), (.t 31)] (.r (.one (.int .i64)))) (.op (some 9) (.mov (.t 32)) .nil))))) []) C6_14
def C6_16 : AC := .ret
def C6_17 : AC := .cond (.t 28) (.seq (.reg (.op (some 6) (.mov (.c (.bool true))) .nil) []) C6_16) .skip
def C6_18 : AC := .seq (.seq (.reg (.op (some 27) (.mov (.t 8)) (.op (some 28) (.bin .neq (.t 27) (.c (.int .i64 0))) .nil)) []) C6_17) C6_15
def C6_19 : AC := .seq (.reg (.op (some 23) (.loadA [.sl, .sl] (.t 3)) (.op (some 24) (.call 9 [(.t 23)] (.tup [.one .sl, .one (.int .i64)])) (.op (some 22) (.mov (.t 24)) (.op (some 25) (.ext (.t 22) 0) (.op (some 26) (.ext (.t 22) 1) (.op (some 7) (.mov (.t 25)) (.op (some 8) (.mov (.t 26)) .nil))))))) []) C6_18
def C6_20 : AC := .ret
def C6_21 : AC := .cond (.t 21) (.seq (.reg (.op (some 6) (.mov (.c (.bool false))) .nil) []) C6_20) .skip
def C6_22 : AC := .seq (.seq (.reg (.op (some 20) (.callP 15 [] (.r (.one .bool))) (.op (some 21) (.not (.t 20)) .nil)) []) C6_21) C6_19
def C6_23 : AC := .seq (.reg (.op (some 3) (.box (.t 0)) (.op (some 6) (.mov (.c (.bool false))) .nil)) []) C6_22
def F6 : AFunc := { ntmps := 84, results := [.tmp 6], body := C6_23 }
noncomputable def p6_0 (call : CallF) (meth : MethF) (x0_1a : Option (Nat × Nat)) (x0_1l : Nat) (x0_1c : Cap) (x0_2a : Option (Nat × Nat)) (x0_2l : Nat) (x0_2c : Cap) (x1_3 : Int) (x2_4 : Int) (M : Mem) : Option (AVal × Mem) := run false call meth F6.results [.code C6_23] [some (.agg [.sl x0_1a x0_1l x0_1c, .sl x0_2a x0_2l x0_2c]), some (.int .i64 x1_3), some (.int .u8 x2_4), none, none, none, none, none, none, none, none, none, none, none, none, none, none, none, none, none, none, none, none, none, none, none, none, none, none, none, none, none, none, none, none, none, none, none, none, none, none, none, none, none, none, none, none, none, none, none, none, none, none, none, none, none, none, none, none, none, none, none, none, none, none, none, none, none, none, none, none, none, none, none, none, none, none, none, none, none, none, none, none, none] M
theorem run6 (call : CallF) (meth : MethF) (x0_1a : Option (Nat × Nat)) (x0_1l : Nat) (x0_1c : Cap) (x0_2a : Option (Nat × Nat)) (x0_2l : Nat) (x0_2c : Cap) (x1_3 : Int) (x2_4 : Int) (M : Mem) : run false call meth F6.results [.code F6.body] (frame0 F6 [.agg [.sl x0_1a x0_1l x0_1c, .sl x0_2a x0_2l x0_2c], .int .i64 x1_3, .int .u8 x2_4]) M = p6_0 call meth x0_1a x0_1l x0_1c x0_2a x0_2l x0_2c x1_3 x2_4 M := by kernel_rfl
theorem ok6 : okFn Try.prog 6 F6 = true := by kernel_rfl
end Go.Proofs.Ytmkncifbammfjaa.M
