/- Ytidofnpfeibbfaa: functions cut into pieces, with an equation for each cut point (printed by ptgen.py). -/
import Derived.Test.YtidofnpfeibbfaaXRen
import Derived.Test.YtidofnpfeibbfaaProg
set_option linter.unusedVariables false
set_option maxRecDepth 100000
namespace Go.Proofs.Ytidofnpfeibbfaa.M
open Go.Abs
/-! sallyport/sallyportlaw24.HelperTells -/
def C3_1 : AC := .ret
def C3_2 : AC := .seq (.reg (.op (some 42) (.callP 12 [] (.r (.one .bool))) (.op (some 2) (.mov (.t 42)) .nil)) []) C3_1
def C3_3 : AC := .reg (.op (some 11) (.mov (.t 3)) (.op (some 12) (.bin .add (.t 11) (.c (.int .i32 1))) (.op (some 3) (.mov (.t 12)) .nil))) []
def C3_4 : AC := .ret
def C3_5 : AC := .cond (.t 41) (.seq (.reg (.op (some 2) (.mov (.c (.bool false))) .nil) []) C3_4) .skip
def C3_6 : AC := .seq (.reg (.op (some 27) (.mov (.t 5)) (.op (some 28) (.mov (.t 7)) (.op (some 29) (.bin .neq (.t 27) (.t 28)) (.op (some 30) (.mov (.t 29)) (.grp 30 false (.op (some 31) (.mov (.t 6)) (.op (some 32) (.mov (.t 8)) (.op (some 33) (.eq true .bool (.t 31) (.t 32)) .nil))) (.op (some 34) (.pick (.t 30) (.c (.bool true)) (.t 33)) (.op (some 35) (.mov (.t 34)) (.grp 35 false (.op (some 36) (.mov (.t 4)) (.op (some 37) (.callP 10 [(.t 36)] (.r (.one .bool))) (.op (some 38) (.mov (.t 4)) (.op (some 39) (.callP 11 [(.t 38)] (.r (.one .bool))) (.op (some 40) (.eq true .bool (.t 37) (.t 39)) .nil))))) (.op (some 41) (.pick (.t 35) (.c (.bool true)) (.t 40)) .nil))))))))) []) C3_5
def C3_7 : AC := .seq (.reg (.op (some 23) (.mov (.t 4)) (.op (some 24) (.callP 9 [(.t 23)] (.tup [.one (.int .i64), .one .bool])) (.op (some 22) (.mov (.t 24)) (.op (some 25) (.ext (.t 22) 0) (.op (some 26) (.ext (.t 22) 1) (.op (some 7) (.mov (.t 25)) (.op (some 8) (.mov (.t 26)) .nil))))))) []) C3_6
def C3_8 : AC := .seq (.reg (.op (some 18) (.mov (.t 4)) (.op (some 19) (.callP 8 [(.t 18)] (.tup [.one (.int .i64), .one .bool])) (.op (some 17) (.mov (.t 19)) (.op (some 20) (.ext (.t 17) 0) (.op (some 21) (.ext (.t 17) 1) (.op (some 5) (.mov (.t 20)) (.op (some 6) (.mov (.t 21)) .nil))))))) []) C3_7
def C3_9 : AC := .kil [1, 2, 5, 6, 7, 8, 9, 10, 11, 12, 13, 14, 15, 16, 17, 18, 19, 20, 21, 22, 23, 24, 25, 26, 27, 28, 29, 30, 31, 32, 33, 34, 35, 36, 37, 38, 39, 40, 41, 42] (.pt C3_8)
def C3_10 : AC := .cond (.t 15) (.reg (.op (some 16) (.mov (.t 0)) (.op (some 4) (.mov (.t 16)) .nil)) []) .skip
def C3_11 : AC := .seq (.seq (.reg (.op (some 14) (.mov (.t 3)) (.op (some 15) (.bin .lss (.t 14) (.c (.int .i32 0))) .nil)) []) C3_10) C3_9
def C3_12 : AC := .seq (.block 1 (.seq (.reg (.op (some 13) (.mov (.t 3)) (.op (some 4) (.mov (.t 13)) .nil)) []) C3_11)) C3_3
def C3_13 : AC := .cond (.t 10) .skip (.exit 0)
def C3_14 : AC := .seq (.seq (.reg (.op (some 9) (.mov (.t 3)) (.op (some 10) (.bin .lss (.t 9) (.c (.int .i32 30))) .nil)) []) C3_13) C3_12
def C3_15 : AC := .kil [1, 2, 4, 5, 6, 7, 8, 9, 10, 11, 12, 13, 14, 15, 16, 17, 18, 19, 20, 21, 22, 23, 24, 25, 26, 27, 28, 29, 30, 31, 32, 33, 34, 35, 36, 37, 38, 39, 40, 41, 42] (.pt C3_14)
def C3_16 : AC := .block 0 (.loop C3_15)
def C3_17 : AC := .seq (.seq (.reg (.op (some 3) (.mov (.c (.int .i32 (-1)))) .nil) []) C3_16) C3_2
def C3_18 : AC := .seq (.reg (.op (some 2) (.mov (.c (.bool false))) .nil) []) C3_17
def F3 : AFunc := { ntmps := 43, results := [.tmp 2], body := C3_18 }
noncomputable def p3_0 (call : CallF) (meth : MethF) (x0_1 : Int) (M : Mem) : Option (AVal × Mem) := run false call meth F3.results [.code C3_18] [some (.int .i32 x0_1), none, none, none, none, none, none, none, none, none, none, none, none, none, none, none, none, none, none, none, none, none, none, none, none, none, none, none, none, none, none, none, none, none, none, none, none, none, none, none, none, none, none] M
noncomputable def p3_1 (call : CallF) (meth : MethF) (x0_101 : Int) (x3_102 : Int) (M : Mem) : Option (AVal × Mem) := run false call meth F3.results [.code C3_14, .inLoop C3_15, .inBlock 0, .code C3_2] [some (.int .i32 x0_101), none, none, some (.int .i32 x3_102), none, none, none, none, none, none, none, none, none, none, none, none, none, none, none, none, none, none, none, none, none, none, none, none, none, none, none, none, none, none, none, none, none, none, none, none, none, none, none] M
noncomputable def p3_2 (call : CallF) (meth : MethF) (x0_201 : Int) (x3_202 : Int) (x4_203 : Int) (M : Mem) : Option (AVal × Mem) := run false call meth F3.results [.code C3_8, .inBlock 1, .code C3_3, .inLoop C3_15, .inBlock 0, .code C3_2] [some (.int .i32 x0_201), none, none, some (.int .i32 x3_202), some (.int .i32 x4_203), none, none, none, none, none, none, none, none, none, none, none, none, none, none, none, none, none, none, none, none, none, none, none, none, none, none, none, none, none, none, none, none, none, none, none, none, none, none] M
theorem p3_0_eq (call : CallF) (meth : MethF) (x0_1 : Int) (M : Mem) : p3_0 call meth x0_1 M = (p3_1 call meth x0_1 (-1) M) :=
  (seg_run false call meth F3.results 100000 [.code C3_18] _ M).symm.trans (by kernel_rfl)
theorem p3_1_eq (call : CallF) (meth : MethF) (x0_101 : Int) (x3_102 : Int) (M : Mem) : p3_1 call meth x0_101 x3_102 M = (cond (decide (x3_102 < 30)) (cond (decide (x3_102 < 0)) (p3_2 call meth x0_101 x3_102 x0_101 M) (p3_2 call meth x0_101 x3_102 x3_102 M)) (Option.bind (call 12 [] Mem.empty) fun r204 => (Option.bind (r204.1.bool?) fun x205 => (some (.bool x205, M))))) :=
  (seg_run false call meth F3.results 100000 [.code C3_14, .inLoop C3_15, .inBlock 0, .code C3_2] _ M).symm.trans (by kernel_rfl)
theorem p3_2_eq (call : CallF) (meth : MethF) (x0_201 : Int) (x3_202 : Int) (x4_203 : Int) (M : Mem) : p3_2 call meth x0_201 x3_202 x4_203 M = (Option.bind (call 8 [.int .i32 x4_203] Mem.empty) fun r301 => (Option.bind r301.1.tup? fun l302 => (Option.bind l302.head? fun v303 => (Option.bind (v303.int? .i64) fun x304 => (Option.bind l302.tail.head? fun v305 => (Option.bind (v305.bool?) fun x306 => (cond l302.tail.tail.isEmpty (Option.bind (call 9 [.int .i32 x4_203] Mem.empty) fun r307 => (Option.bind r307.1.tup? fun l308 => (Option.bind l308.head? fun v309 => (Option.bind (v309.int? .i64) fun x310 => (Option.bind l308.tail.head? fun v311 => (Option.bind (v311.bool?) fun x312 => (cond l308.tail.tail.isEmpty (cond (x304 != x310) (some (.bool false, M)) (cond (!(x306 == x312)) (some (.bool false, M)) (Option.bind (call 10 [.int .i32 x4_203] Mem.empty) fun r313 => (Option.bind (r313.1.bool?) fun x314 => (Option.bind (call 11 [.int .i32 x4_203] Mem.empty) fun r315 => (Option.bind (r315.1.bool?) fun x316 => (cond (!(x314 == x316)) (some (.bool false, M)) (p3_1 call meth x0_201 (IntKind.wrap .i32 (x3_202 + 1)) M)))))))) none))))))) none))))))) :=
  (seg_run false call meth F3.results 100000 [.code C3_8, .inBlock 1, .code C3_3, .inLoop C3_15, .inBlock 0, .code C3_2] _ M).symm.trans (by kernel_rfl)
theorem run3 (call : CallF) (meth : MethF) (x0_1 : Int) (M : Mem) : run false call meth F3.results [.code F3.body] (frame0 F3 [.int .i32 x0_1]) M = p3_0 call meth x0_1 M := by kernel_rfl
theorem ok3 : okFn Try.prog 3 F3 = true := by kernel_rfl
end Go.Proofs.Ytidofnpfeibbfaa.M
