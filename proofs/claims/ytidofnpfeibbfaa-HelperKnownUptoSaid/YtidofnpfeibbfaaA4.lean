import Derived.Test.YtidofnpfeibbfaaXRen
import Derived.Test.YtidofnpfeibbfaaProg
set_option linter.unusedVariables false
set_option maxRecDepth 100000
namespace Go.Proofs.Ytidofnpfeibbfaa.M
open Go.Abs
noncomputable section
variable (call : CallF) (meth : MethF)
def C93_1 : AC := .ret
def C93_2 : AC := .seq (.reg (.o 4 (.mov (.c (.int .i64 0))) .nil) []) C93_1
def C93_3 : AC := .seq (.reg (.o 47 (.mov (.t 0)) (.o 48 (.nilCk (.t 47)) (.o 49 (.fldA 4 (.t 48)) (.o 50 (.load1 (.int .i64) (.t 49)) (.o 51 (.bin .add (.t 50) (.c (.int .i64 1))) (.o 52 (.nilCk (.t 47)) (.o 53 (.fldA 4 (.t 52)) (.op none (.store 1 (.t 53) (.t 51)) .nil)))))))) []) C93_2
def C93_4 : AC := .kil (rg 1 53 []) (.pt C93_3)
def C93_5 : AC := .drw (.o 31 (.mov (.t 0)) (.o 32 (.nilCk (.t 31)) (.o 33 (.fldA 1 (.t 32)) (.o 34 (.load1 .sl (.t 33)) (.o 35 (.mov (.t 0)) (.o 36 (.nilCk (.t 35)) (.o 37 (.fldA 2 (.t 36)) (.o 38 (.load1 (.int .i64) (.t 37)) (.o 39 (.mov (.t 0)) (.o 40 (.nilCk (.t 39)) (.o 41 (.fldA 2 (.t 40)) (.o 42 (.load1 (.int .i64) (.t 41)) (.o 43 (.mov (.t 1)) (.o 44 (.max [(.t 43), (.c (.int .i64 0))]) (.o 45 (.bin .add (.t 42) (.t 44)) (.o 46 (.slc 1 (.t 34) (some (.t 38)) (some (.t 45)) none) (.op none (.clear [.int .u8 0] (.t 46)) .nil))))))))))))))))) [] []
def C93_6 : AC := .seq (.reg (.o 23 (.mov (.t 0)) (.o 24 (.nilCk (.t 23)) (.o 25 (.fldA 2 (.t 24)) (.o 26 (.load1 (.int .i64) (.t 25)) (.o 27 (.mov (.t 1)) (.o 28 (.bin .sub (.t 26) (.t 27)) (.o 29 (.nilCk (.t 23)) (.o 30 (.fldA 2 (.t 29)) (.op none (.store 1 (.t 30) (.t 28)) .nil))))))))) []) C93_5
def C93_7 : AC := .cond (.t 17) (.reg (.o 18 (.mov (.t 0)) (.o 19 (.mov (.t 0)) (.o 20 (.call 65 [(.t 19)] (.r (.one .sl))) (.o 21 (.mov (.t 1)) (.o 22 (.call 87 [(.t 18), (.t 20), (.c (.int .i64 64)), (.t 21), (.c (.int .i64 0)), (.c (.int .i64 64))] (.tup [])) .nil))))) []) (.kil (rg 2 52 []) (.pt C93_6))
def C93_8 : AC := .seq (.seq (.reg (.o 12 (.mov (.t 1)) (.o 13 (.mov (.t 0)) (.o 14 (.nilCk (.t 13)) (.o 15 (.fldA 2 (.t 14)) (.o 16 (.load1 (.int .i64) (.t 15)) (.o 17 (.bin .gtr (.t 12) (.t 16)) .nil)))))) []) C93_7) C93_4
def C93_9 : AC := .ret
def C93_10 : AC := .cond (.t 10) (.seq (.reg (.o 11 (.mov (.t 5)) (.o 4 (.mov (.t 11)) .nil)) []) C93_9) .skip
def C93_11 : AC := .seq (.reg (.o 9 (.mov (.t 5)) (.o 10 (.bin .neq (.t 9) (.c (.int .i64 0))) .nil)) []) C93_10
def C93_12 : AC := .seq (.seq (.reg (.o 6 (.mov (.t 0)) (.o 7 (.mov (.t 1)) (.o 8 (.call 105 [(.t 6), (.t 7)] (.r (.one (.int .i64)))) (.o 5 (.mov (.t 8)) .nil)))) []) C93_11) C93_8
def C93_13 : AC := .seq (.reg (.o 4 (.mov (.c (.int .i64 0))) .nil) []) C93_12
def F93 : AFunc := { ntmps := 54, results := [.tmp 4], body := C93_13 }
def p93_0 (x0_1 : Ad) (x1_2 : Int) (M : Mem) : Rs := run false call meth F93.results [.code C93_13] (some (.ptr x0_1) :: some (.int .i64 x1_2) :: nn 52 []) M
def p93_1 (x0_109 : Ad) (M : Mem) : Rs := run false call meth F93.results [.code C93_3] (some (.ptr x0_109) :: nn 53 []) M
def p93_2 (x0_110 : Ad) (x1_111 : Int) (M : Mem) : Rs := run false call meth F93.results [.code C93_6, .code C93_4] (some (.ptr x0_110) :: some (.int .i64 x1_111) :: nn 52 []) M
theorem p93_0_eq (x0_1 : Ad) (x1_2 : Int) (M : Mem) : p93_0 call meth x0_1 x1_2 M = (Option.bind (call 105 [.ptr x0_1, .int .i64 x1_2] M) fun r101 => (Option.bind (r101.1.int? .i64) fun x102 => (cond (x102 != 0) (some (.int .i64 x102, r101.2)) (Option.bind x0_1 fun p103 => (Option.bind (r101.2.ldI .i64 p103.1 (p103.2 + 2)) fun x104 => (cond (decide (x1_2 > x104)) (Option.bind (call 65 [.ptr x0_1] r101.2) fun r105 => (Option.bind (r105.1.sl?) fun x106 => (Option.bind (call 87 [.ptr x0_1, .sl x106.1 x106.2.1 x106.2.2, .int .i64 64, .int .i64 x1_2, .int .i64 0, .int .i64 64] r105.2) fun r107 => (Option.bind r107.1.tup? fun l108 => (cond l108.isEmpty (p93_1 call meth x0_1 r107.2) none))))) (p93_2 call meth x0_1 x1_2 r101.2))))))) :=
  (seg_run false call meth F93.results 100000 [.code C93_13] _ M).symm.trans (by kernel_rfl)
theorem p93_1_eq (x0_109 : Ad) (M : Mem) : p93_1 call meth x0_109 M = (Option.bind x0_109 fun p201 => (Option.bind (M.ldI .i64 p201.1 (p201.2 + 4)) fun x202 => (Option.bind x0_109 fun p203 => (Option.bind (M.st p203.1 (p203.2 + 4) [.int .i64 (IntKind.wrap .i64 (x202 + 1))]) fun M204 => (some (.int .i64 0, M204)))))) :=
  (seg_run false call meth F93.results 100000 [.code C93_3] _ M).symm.trans (by kernel_rfl)
theorem p93_2_eq (x0_110 : Ad) (x1_111 : Int) (M : Mem) : p93_2 call meth x0_110 x1_111 M = (Option.bind x0_110 fun p301 => (Option.bind (M.ldI .i64 p301.1 (p301.2 + 2)) fun x302 => (Option.bind x0_110 fun p303 => (Option.bind (M.st p303.1 (p303.2 + 2) [.int .i64 (IntKind.wrap .i64 (x302 - x1_111))]) fun M304 => (Option.bind x0_110 fun p305 => (Option.bind (M304.ldL p305.1 (p305.2 + 1)) fun x306 => (Option.bind x0_110 fun p307 => (Option.bind (M304.ldI .i64 p307.1 (p307.2 + 2)) fun x308 => (Option.bind x0_110 fun p309 => (Option.bind (M304.ldI .i64 p309.1 (p309.2 + 2)) fun x310 => (slcK false 1 x306.1 x306.2.1 x306.2.2 M304 (some (.int .i64 x308)) (some (.int .i64 (IntKind.wrap .i64 (x310 + (cond (decide (0 > x1_111)) 0 x1_111))))) none fun s311a s311l s311c => (clearK [.int .u8 0] M304 s311a s311l s311c fun M312 => (p93_1 call meth x0_110 M312))))))))))))) :=
  (seg_run false call meth F93.results 100000 [.code C93_6, .code C93_4] _ M).symm.trans (by kernel_rfl)
theorem run93 (x0_1 : Ad) (x1_2 : Int) (M : Mem) : run false call meth F93.results [.code F93.body] (frame0 F93 [.ptr x0_1, .int .i64 x1_2]) M = p93_0 call meth x0_1 x1_2 M := by kernel_rfl
theorem ok93 : okFn Try.prog 93 F93 = true := by kernel_rfl
def C94_1 : AC := .ret
def C94_2 : AC := .seq (.reg (.o 4 (.mov (.c (.int .i64 0))) .nil) []) C94_1
def C94_3 : AC := .seq (.reg (.o 53 (.mov (.t 0)) (.o 54 (.nilCk (.t 53)) (.o 55 (.fldA 4 (.t 54)) (.o 56 (.load1 (.int .i64) (.t 55)) (.o 57 (.bin .add (.t 56) (.c (.int .i64 1))) (.o 58 (.nilCk (.t 53)) (.o 59 (.fldA 4 (.t 58)) (.op none (.store 1 (.t 59) (.t 57)) .nil)))))))) []) C94_2
def C94_4 : AC := .kil (rg 1 59 []) (.pt C94_3)
def C94_5 : AC := .drw (.o 37 (.mov (.t 0)) (.o 38 (.nilCk (.t 37)) (.o 39 (.fldA 1 (.t 38)) (.o 40 (.load1 .sl (.t 39)) (.o 41 (.mov (.t 0)) (.o 42 (.nilCk (.t 41)) (.o 43 (.fldA 3 (.t 42)) (.o 44 (.load1 (.int .i64) (.t 43)) (.o 45 (.mov (.t 1)) (.o 46 (.max [(.t 45), (.c (.int .i64 0))]) (.o 47 (.bin .sub (.t 44) (.t 46)) (.o 48 (.mov (.t 0)) (.o 49 (.nilCk (.t 48)) (.o 50 (.fldA 3 (.t 49)) (.o 51 (.load1 (.int .i64) (.t 50)) (.o 52 (.slc 1 (.t 40) (some (.t 47)) (some (.t 51)) none) (.op none (.clear [.int .u8 0] (.t 52)) .nil))))))))))))))))) [] []
def C94_6 : AC := .seq (.reg (.o 29 (.mov (.t 0)) (.o 30 (.nilCk (.t 29)) (.o 31 (.fldA 3 (.t 30)) (.o 32 (.load1 (.int .i64) (.t 31)) (.o 33 (.mov (.t 1)) (.o 34 (.bin .add (.t 32) (.t 33)) (.o 35 (.nilCk (.t 29)) (.o 36 (.fldA 3 (.t 35)) (.op none (.store 1 (.t 36) (.t 34)) .nil))))))))) []) C94_5
def C94_7 : AC := .cond (.t 23) (.reg (.o 24 (.mov (.t 0)) (.o 25 (.mov (.t 0)) (.o 26 (.call 65 [(.t 25)] (.r (.one .sl))) (.o 27 (.mov (.t 1)) (.o 28 (.call 87 [(.t 24), (.t 26), (.c (.int .i64 64)), (.c (.int .i64 0)), (.t 27), (.c (.int .i64 64))] (.tup [])) .nil))))) []) (.kil (rg 2 58 []) (.pt C94_6))
def C94_8 : AC := .seq (.seq (.drw (.o 12 (.mov (.t 1)) (.o 13 (.mov (.t 0)) (.o 14 (.nilCk (.t 13)) (.o 15 (.fldA 1 (.t 14)) (.o 16 (.load1 .sl (.t 15)) (.o 17 (.len (.t 16)) (.o 18 (.mov (.t 0)) (.o 19 (.nilCk (.t 18)) (.o 20 (.fldA 3 (.t 19)) (.o 21 (.load1 (.int .i64) (.t 20)) (.o 22 (.bin .sub (.t 17) (.t 21)) (.o 23 (.bin .gtr (.t 12) (.t 22)) .nil)))))))))))) [] []) C94_7) C94_4
def C94_9 : AC := .ret
def C94_10 : AC := .cond (.t 10) (.seq (.reg (.o 11 (.mov (.t 5)) (.o 4 (.mov (.t 11)) .nil)) []) C94_9) .skip
def C94_11 : AC := .seq (.reg (.o 9 (.mov (.t 5)) (.o 10 (.bin .neq (.t 9) (.c (.int .i64 0))) .nil)) []) C94_10
def C94_12 : AC := .seq (.seq (.reg (.o 6 (.mov (.t 0)) (.o 7 (.mov (.t 1)) (.o 8 (.call 105 [(.t 6), (.t 7)] (.r (.one (.int .i64)))) (.o 5 (.mov (.t 8)) .nil)))) []) C94_11) C94_8
def C94_13 : AC := .seq (.reg (.o 4 (.mov (.c (.int .i64 0))) .nil) []) C94_12
def F94 : AFunc := { ntmps := 60, results := [.tmp 4], body := C94_13 }
def p94_0 (x0_1 : Ad) (x1_2 : Int) (M : Mem) : Rs := run false call meth F94.results [.code C94_13] (some (.ptr x0_1) :: some (.int .i64 x1_2) :: nn 58 []) M
def p94_1 (x0_111 : Ad) (M : Mem) : Rs := run false call meth F94.results [.code C94_3] (some (.ptr x0_111) :: nn 59 []) M
def p94_2 (x0_112 : Ad) (x1_113 : Int) (M : Mem) : Rs := run false call meth F94.results [.code C94_6, .code C94_4] (some (.ptr x0_112) :: some (.int .i64 x1_113) :: nn 58 []) M
theorem p94_0_eq (x0_1 : Ad) (x1_2 : Int) (M : Mem) : p94_0 call meth x0_1 x1_2 M = (Option.bind (call 105 [.ptr x0_1, .int .i64 x1_2] M) fun r101 => (Option.bind (r101.1.int? .i64) fun x102 => (cond (x102 != 0) (some (.int .i64 x102, r101.2)) (Option.bind x0_1 fun p103 => (Option.bind (r101.2.ldL p103.1 (p103.2 + 1)) fun x104 => (Option.bind x0_1 fun p105 => (Option.bind (r101.2.ldI .i64 p105.1 (p105.2 + 3)) fun x106 => (cond (decide (x1_2 > (IntKind.wrap .i64 (((x104.2.1 : Nat) : Int) - x106)))) (Option.bind (call 65 [.ptr x0_1] r101.2) fun r107 => (Option.bind (r107.1.sl?) fun x108 => (Option.bind (call 87 [.ptr x0_1, .sl x108.1 x108.2.1 x108.2.2, .int .i64 64, .int .i64 0, .int .i64 x1_2, .int .i64 64] r107.2) fun r109 => (Option.bind r109.1.tup? fun l110 => (cond l110.isEmpty (p94_1 call meth x0_1 r109.2) none))))) (p94_2 call meth x0_1 x1_2 r101.2))))))))) :=
  (seg_run false call meth F94.results 100000 [.code C94_13] _ M).symm.trans (by kernel_rfl)
theorem p94_1_eq (x0_111 : Ad) (M : Mem) : p94_1 call meth x0_111 M = (Option.bind x0_111 fun p201 => (Option.bind (M.ldI .i64 p201.1 (p201.2 + 4)) fun x202 => (Option.bind x0_111 fun p203 => (Option.bind (M.st p203.1 (p203.2 + 4) [.int .i64 (IntKind.wrap .i64 (x202 + 1))]) fun M204 => (some (.int .i64 0, M204)))))) :=
  (seg_run false call meth F94.results 100000 [.code C94_3] _ M).symm.trans (by kernel_rfl)
theorem p94_2_eq (x0_112 : Ad) (x1_113 : Int) (M : Mem) : p94_2 call meth x0_112 x1_113 M = (Option.bind x0_112 fun p301 => (Option.bind (M.ldI .i64 p301.1 (p301.2 + 3)) fun x302 => (Option.bind x0_112 fun p303 => (Option.bind (M.st p303.1 (p303.2 + 3) [.int .i64 (IntKind.wrap .i64 (x302 + x1_113))]) fun M304 => (Option.bind x0_112 fun p305 => (Option.bind (M304.ldL p305.1 (p305.2 + 1)) fun x306 => (Option.bind x0_112 fun p307 => (Option.bind (M304.ldI .i64 p307.1 (p307.2 + 3)) fun x308 => (Option.bind x0_112 fun p309 => (Option.bind (M304.ldI .i64 p309.1 (p309.2 + 3)) fun x310 => (slcK false 1 x306.1 x306.2.1 x306.2.2 M304 (some (.int .i64 (IntKind.wrap .i64 (x308 - (cond (decide (0 > x1_113)) 0 x1_113))))) (some (.int .i64 x310)) none fun s311a s311l s311c => (clearK [.int .u8 0] M304 s311a s311l s311c fun M312 => (p94_1 call meth x0_112 M312))))))))))))) :=
  (seg_run false call meth F94.results 100000 [.code C94_6, .code C94_4] _ M).symm.trans (by kernel_rfl)
theorem run94 (x0_1 : Ad) (x1_2 : Int) (M : Mem) : run false call meth F94.results [.code F94.body] (frame0 F94 [.ptr x0_1, .int .i64 x1_2]) M = p94_0 call meth x0_1 x1_2 M := by kernel_rfl
theorem ok94 : okFn Try.prog 94 F94 = true := by kernel_rfl
def C105_1 : AC := .ret
def C105_2 : AC := .seq (.reg (.o 4 (.mov (.c (.int .i64 0))) .nil) []) C105_1
def C105_3 : AC := .ret
def C105_4 : AC := .ret
def C105_5 : AC := .ret
def C105_6 : AC := .cond (.t 14) (.seq (.reg (.o 4 (.mov (.c (.int .i64 6))) .nil) []) C105_5) .skip
def C105_7 : AC := .cond (.t 8) (.seq (.reg (.o 4 (.mov (.c (.int .i64 5))) .nil) []) C105_4) (.seq (.reg (.o 15 (.mov (.t 1)) (.o 16 (.mov (.t 0)) (.o 17 (.call 104 [(.t 16)] (.r (.one (.int .i64)))) (.o 18 (.neg (.t 17)) (.o 19 (.bin .lss (.t 15) (.t 18)) (.o 14 (.mov (.t 19)) .nil)))))) []) C105_6)
def C105_8 : AC := .cond (.t 5) (.seq (.reg (.o 4 (.mov (.c (.int .i64 1))) .nil) []) C105_3) (.seq (.reg (.o 9 (.mov (.t 1)) (.o 10 (.mov (.t 0)) (.o 11 (.call 104 [(.t 10)] (.r (.one (.int .i64)))) (.o 12 (.bin .sub (.c (.int .i64 2048)) (.t 11)) (.o 13 (.bin .gtr (.t 9) (.t 12)) (.o 8 (.mov (.t 13)) .nil)))))) []) C105_7)
def C105_9 : AC := .seq (.block 0 (.seq (.reg (.o 6 (.mov (.t 0)) (.o 7 (.call 89 [(.t 6)] (.r (.one .bool))) (.o 5 (.mov (.t 7)) .nil))) []) C105_8)) C105_2
def C105_10 : AC := .seq (.reg (.o 4 (.mov (.c (.int .i64 0))) .nil) []) C105_9
def F105 : AFunc := { ntmps := 20, results := [.tmp 4], body := C105_10 }
def p105_0 (x0_1 : Ad) (x1_2 : Int) (M : Mem) : Rs := run false call meth F105.results [.code C105_10] (some (.ptr x0_1) :: some (.int .i64 x1_2) :: nn 18 []) M
theorem p105_0_eq (x0_1 : Ad) (x1_2 : Int) (M : Mem) : p105_0 call meth x0_1 x1_2 M = (Option.bind (call 89 [.ptr x0_1] M) fun r101 => (Option.bind (r101.1.bool?) fun x102 => (cond x102 (some (.int .i64 1, r101.2)) (Option.bind (call 104 [.ptr x0_1] r101.2) fun r103 => (Option.bind (r103.1.int? .i64) fun x104 => (cond (decide (x1_2 > (IntKind.wrap .i64 (2048 - x104)))) (some (.int .i64 5, r103.2)) (Option.bind (call 104 [.ptr x0_1] r103.2) fun r105 => (Option.bind (r105.1.int? .i64) fun x106 => (cond (decide (x1_2 < (IntKind.wrap .i64 (0 - x106)))) (some (.int .i64 6, r105.2)) (some (.int .i64 0, r105.2))))))))))) :=
  (seg_run false call meth F105.results 100000 [.code C105_10] _ M).symm.trans (by kernel_rfl)
theorem run105 (x0_1 : Ad) (x1_2 : Int) (M : Mem) : run false call meth F105.results [.code F105.body] (frame0 F105 [.ptr x0_1, .int .i64 x1_2]) M = p105_0 call meth x0_1 x1_2 M := by kernel_rfl
theorem ok105 : okFn Try.prog 105 F105 = true := by kernel_rfl
def C12_1 : AC := .ret
def C12_2 : AC := .seq (.reg (.o 35 (.mov (.t 5)) (.o 36 (.bin .eql (.t 35) (.c (.int .i64 0))) (.o 37 (.mov (.t 36)) (.grp 37 true (.o 38 (.mov (.t 7)) (.o 39 (.bin .eql (.t 38) (.c (.int .i64 0))) .nil)) (.o 40 (.pick (.t 37) (.t 39) (.c (.bool false))) (.o 41 (.mov (.t 40)) (.grp 41 true (.o 42 (.mov (.t 9)) (.o 43 (.bin .eql (.t 42) (.c (.int .i64 0))) .nil)) (.o 44 (.pick (.t 41) (.t 43) (.c (.bool false))) (.o 45 (.mov (.t 44)) (.grp 45 true (.o 46 (.mov (.t 4)) (.o 47 (.bin .eql (.t 46) (.c (.int .u64 515))) .nil)) (.o 48 (.pick (.t 45) (.t 47) (.c (.bool false))) (.o 49 (.mov (.t 48)) (.grp 49 true (.o 50 (.mov (.t 6)) (.o 51 (.bin .eql (.t 50) (.c (.int .u64 1))) .nil)) (.o 52 (.pick (.t 49) (.t 51) (.c (.bool false))) (.o 53 (.mov (.t 52)) (.grp 53 true (.o 54 (.mov (.t 8)) (.o 55 (.bin .eql (.t 54) (.c (.int .u64 1))) .nil)) (.o 56 (.pick (.t 53) (.t 55) (.c (.bool false))) (.o 57 (.mov (.t 56)) (.grp 57 true (.o 58 (.mov (.t 1)) (.o 59 (.call 16 [(.t 58)] (.r (.one .sl))) (.o 60 (.bslice (replZ [.int .u8 0] 6) [(0, 1, (.c (.int .u8 0))), (1, 1, (.c (.int .u8 0))), (2, 1, (.c (.int .u8 9))), (3, 1, (.c (.int .u8 2))), (4, 1, (.c (.int .u8 3))), (5, 1, (.c (.int .u8 4)))] 6) (.o 61 (.call 22 [(.t 59), (.t 60)] (.r (.one .bool))) .nil)))) (.o 62 (.pick (.t 57) (.t 61) (.c (.bool false))) (.o 0 (.mov (.t 62)) .nil))))))))))))))))))))) []) C12_1
def C12_3 : AC := .seq (.reg (.o 30 (.mov (.t 2)) (.o 31 (.callP 25 [(.c (.int .u64 2)), (.c (.int .u64 0)), (.c (.int .u64 0))] (.r (.agg [.int .u64, .int .u64, .int .u64, .int .u64, .int .u64]))) (.o 32 (.call 17 [(.t 30), (.c (.int .i32 3)), (.t 31)] (.tup [.one (.int .u64), .one (.int .i64)])) (.o 29 (.mov (.t 32)) (.o 33 (.ext (.t 29) 0) (.o 34 (.ext (.t 29) 1) (.o 8 (.mov (.t 33)) (.o 9 (.mov (.t 34)) .nil)))))))) []) C12_2
def C12_4 : AC := .seq (.reg (.o 24 (.mov (.t 2)) (.o 25 (.callP 25 [(.c (.int .u64 0)), (.c (.int .u64 1)), (.c (.int .u64 9))] (.r (.agg [.int .u64, .int .u64, .int .u64, .int .u64, .int .u64]))) (.o 26 (.call 17 [(.t 24), (.c (.int .i32 2)), (.t 25)] (.tup [.one (.int .u64), .one (.int .i64)])) (.o 23 (.mov (.t 26)) (.o 27 (.ext (.t 23) 0) (.o 28 (.ext (.t 23) 1) (.o 6 (.mov (.t 27)) (.o 7 (.mov (.t 28)) .nil)))))))) []) C12_3
def C12_5 : AC := .seq (.reg (.o 18 (.mov (.t 2)) (.o 19 (.callP 25 [(.c (.int .u64 1)), (.c (.int .u64 2)), (.c (.int .u64 0))] (.r (.agg [.int .u64, .int .u64, .int .u64, .int .u64, .int .u64]))) (.o 20 (.call 17 [(.t 18), (.c (.int .i32 1)), (.t 19)] (.tup [.one (.int .u64), .one (.int .i64)])) (.o 17 (.mov (.t 20)) (.o 21 (.ext (.t 17) 0) (.o 22 (.ext (.t 17) 1) (.o 4 (.mov (.t 21)) (.o 5 (.mov (.t 22)) .nil)))))))) []) C12_4
def C12_6 : AC := .ret
def C12_7 : AC := .cond (.t 16) (.seq (.reg (.o 0 (.mov (.c (.bool false))) .nil) []) C12_6) .skip
def C12_8 : AC := .seq (.seq (.reg (.o 15 (.mov (.t 3)) (.o 16 (.not (.t 15)) .nil)) []) C12_7) C12_5
def C12_9 : AC := .seq (.reg (.o 11 (.call 24 [] (.tup [.one .ptr, .one .ptr, .one .bool])) (.o 10 (.mov (.t 11)) (.o 12 (.ext (.t 10) 0) (.o 13 (.ext (.t 10) 1) (.o 14 (.ext (.t 10) 2) (.o 1 (.mov (.t 12)) (.o 2 (.mov (.t 13)) (.o 3 (.mov (.t 14)) .nil)))))))) []) C12_8
def C12_10 : AC := .seq (.reg (.o 0 (.mov (.c (.bool false))) .nil) []) C12_9
def F12 : AFunc := { ntmps := 63, results := [.tmp 0], body := C12_10 }
theorem ok12 : okFn Try.prog 12 F12 = true := by kernel_rfl
def C24_1 : AC := .ret
def C24_2 : AC := .seq (.reg (.o 20 (.mov (.t 3)) (.o 21 (.mov (.t 5)) (.o 22 (.mov (.t 4)) (.o 23 (.bin .eql (.t 22) (.c (.int .i64 0))) (.o 24 (.mov (.t 23)) (.grp 24 true (.o 25 (.mov (.t 6)) (.o 26 (.bin .eql (.t 25) (.c (.int .i64 0))) .nil)) (.o 27 (.pick (.t 24) (.t 26) (.c (.bool false))) (.o 0 (.mov (.t 20)) (.o 1 (.mov (.t 21)) (.o 2 (.mov (.t 27)) .nil)))))))))) []) C24_1
def C24_3 : AC := .seq (.reg (.o 13 (.mov (.t 3)) (.o 14 (.build [.int .u64 0, .int .u64 0] [(0, 1, (.c (.int .u64 7))), (1, 1, (.c (.int .u64 2)))]) (.o 15 (.bslice [.int .u64 0, .int .u64 0] [(0, 2, (.t 14))] 1) (.o 16 (.bslice [.sl none 0 (.known 0)] [(0, 1, (.t 15))] 1) (.o 17 (.call 15 [(.t 13), (.t 16), (.c (.sl none 0 (.known 0)))] (.tup [.one .ptr, .one (.int .i64)])) (.o 12 (.mov (.t 17)) (.o 18 (.ext (.t 12) 0) (.o 19 (.ext (.t 12) 1) (.o 5 (.mov (.t 18)) (.o 6 (.mov (.t 19)) .nil)))))))))) []) C24_2
def C24_4 : AC := .seq (.reg (.o 8 (.bslice [.int .u8 0, .int .u8 0, .int .u8 0, .int .u8 0] [(0, 1, (.c (.int .u8 1))), (1, 1, (.c (.int .u8 2))), (2, 1, (.c (.int .u8 3))), (3, 1, (.c (.int .u8 4)))] 4) (.o 9 (.call 14 [(.t 8)] (.tup [.one .ptr, .one (.int .i64)])) (.o 7 (.mov (.t 9)) (.o 10 (.ext (.t 7) 0) (.o 11 (.ext (.t 7) 1) (.o 3 (.mov (.t 10)) (.o 4 (.mov (.t 11)) .nil))))))) []) C24_3
def C24_5 : AC := .seq (.reg (.o 0 (.mov (.c (.ptr none))) (.o 1 (.mov (.c (.ptr none))) (.o 2 (.mov (.c (.bool false))) .nil))) []) C24_4
def F24 : AFunc := { ntmps := 28, results := [.tmp 0, .tmp 1, .tmp 2], body := C24_5 }
def p24_0  (M : Mem) : Rs := run false call meth F24.results [.code C24_5] (nn 28 []) M
theorem p24_0_eq  (M : Mem) : p24_0 call meth  M = (let M101 := M.alloc ⟨[.int .u8 1, .int .u8 2, .int .u8 3, .int .u8 4], .fixed⟩; (Option.bind (call 14 [.sl (some (M.n, 0)) 4 (.known 4)] M101) fun r102 => (Option.bind r102.1.tup? fun l103 => (Option.bind l103.head? fun v104 => (Option.bind (v104.ptr?) fun x105 => (Option.bind l103.tail.head? fun v106 => (Option.bind (v106.int? .i64) fun x107 => (cond l103.tail.tail.isEmpty (let M108 := r102.2.alloc ⟨[.int .u64 7, .int .u64 2], .fixed⟩; (let M109 := M108.alloc ⟨[.sl (some (r102.2.n, 0)) 1 (.known 1)], .fixed⟩; (Option.bind (call 15 [.ptr x105, .sl (some (M108.n, 0)) 1 (.known 1), .sl none 0 (.known 0)] M109) fun r110 => (Option.bind r110.1.tup? fun l111 => (Option.bind l111.head? fun v112 => (Option.bind (v112.ptr?) fun x113 => (Option.bind l111.tail.head? fun v114 => (Option.bind (v114.int? .i64) fun x115 => (cond l111.tail.tail.isEmpty (cond (x107 == 0) (some (.tup [.ptr x105, .ptr x113, .bool (x115 == 0)], r110.2)) (some (.tup [.ptr x105, .ptr x113, .bool false], r110.2))) none))))))))) none)))))))) :=
  (seg_run false call meth F24.results 100000 [.code C24_5] _ M).symm.trans (by kernel_rfl)
theorem run24  (M : Mem) : run false call meth F24.results [.code F24.body] (frame0 F24 []) M = p24_0 call meth  M := by kernel_rfl
theorem ok24 : okFn Try.prog 24 F24 = true := by kernel_rfl
def C25_1 : AC := .ret
def C25_2 : AC := .seq (.reg (.o 7 (.mov (.t 0)) (.o 8 (.mov (.t 1)) (.o 9 (.mov (.t 2)) (.o 10 (.build [.int .u64 0, .int .u64 0, .int .u64 0, .int .u64 0, .int .u64 0] [(0, 1, (.t 7)), (1, 1, (.t 8)), (2, 1, (.t 9))]) (.op none (.store 5 (.t 6) (.t 10)) .nil))))) []) C25_1
def C25_3 : AC := .seq (.reg (.o 6 (.alloc [.int .u64 0, .int .u64 0, .int .u64 0, .int .u64 0, .int .u64 0]) .nil) []) C25_2
def F25 : AFunc := { ntmps := 11, results := [.cellA 6 [.int .u64, .int .u64, .int .u64, .int .u64, .int .u64]], body := C25_3 }
def p25_0 (x0_1 : Int) (x1_2 : Int) (x2_3 : Int) (M : Mem) : Rs := run false call meth F25.results [.code C25_3] (some (.int .u64 x0_1) :: some (.int .u64 x1_2) :: some (.int .u64 x2_3) :: nn 8 []) M
theorem p25_0_eq (x0_1 : Int) (x1_2 : Int) (x2_3 : Int) (M : Mem) : p25_0 call meth x0_1 x1_2 x2_3 M = (let M101 := M.alloc ⟨[.int .u64 0, .int .u64 0, .int .u64 0, .int .u64 0, .int .u64 0], .fixed⟩; (Option.bind (M101.st M.n 0 [.int .u64 x0_1, .int .u64 x1_2, .int .u64 x2_3, .int .u64 0, .int .u64 0]) fun M102 => (Option.bind (Option.bind (M102.ldI .u64 M.n 0) fun x103 => (Option.bind (M102.ldI .u64 M.n 1) fun x104 => (Option.bind (M102.ldI .u64 M.n 2) fun x105 => (Option.bind (M102.ldI .u64 M.n 3) fun x106 => (Option.bind (M102.ldI .u64 M.n 4) fun x107 => some (.agg [.int .u64 x103, .int .u64 x104, .int .u64 x105, .int .u64 x106, .int .u64 x107], M102)))))) some))) :=
  (seg_run false call meth F25.results 100000 [.code C25_3] _ M).symm.trans (by kernel_rfl)
theorem run25 (x0_1 : Int) (x1_2 : Int) (x2_3 : Int) (M : Mem) : run false call meth F25.results [.code F25.body] (frame0 F25 [.int .u64 x0_1, .int .u64 x1_2, .int .u64 x2_3]) M = p25_0 call meth x0_1 x1_2 x2_3 M := by kernel_rfl
theorem ok25 : okFn Try.prog 25 F25 = true := by kernel_rfl
def C42_1 : AC := .ret
def C42_2 : AC := .seq (.reg (.o 2 (.mov (.c (.int .i64 0))) .nil) []) C42_1
def C42_3 : AC := .reg (.o 28 (.bin .add (.t 9) (.c (.int .i64 1))) (.o 9 (.mov (.t 28)) .nil)) []
def C42_4 : AC := .ret
def C42_5 : AC := .cond (.t 27) (.seq (.reg (.o 2 (.mov (.c (.int .i64 190))) .nil) []) C42_4) .skip
def C42_6 : AC := .seq (.drw (.o 12 (.mov (.t 3)) (.o 13 (.bin .gtr (.t 12) (.c (.int .i64 0))) (.o 14 (.mov (.t 13)) (.grp 14 true (.o 15 (.mov (.t 0)) (.o 16 (.mov (.t 3)) (.o 17 (.ixS 2 (.t 15) (.t 16)) (.o 18 (.fldA 0 (.t 17)) (.o 19 (.load1 (.int .u64) (.t 18)) (.o 20 (.mov (.t 0)) (.o 21 (.mov (.t 3)) (.o 22 (.bin .sub (.t 21) (.c (.int .i64 1))) (.o 23 (.ixS 2 (.t 20) (.t 22)) (.o 24 (.fldA 0 (.t 23)) (.o 25 (.load1 (.int .u64) (.t 24)) (.o 26 (.bin .leq (.t 19) (.t 25)) .nil)))))))))))) (.o 27 (.pick (.t 14) (.t 26) (.c (.bool false))) .nil))))) [] []) C42_5
def C42_7 : AC := .seq (.block 1 (.seq (.reg (.o 11 (.mov (.t 9)) (.o 3 (.mov (.t 11)) .nil)) []) C42_6)) C42_3
def C42_8 : AC := .seq (.cond (.t 10) .skip (.exit 0)) C42_7
def C42_9 : AC := .seq (.reg (.o 10 (.bin .lss (.t 9) (.t 8)) .nil) []) C42_8
def C42_10 : AC := .kil (rg 1 7 (rg 10 19 [])) (.pt C42_9)
def C42_11 : AC := .block 0 (.loop C42_10)
def C42_12 : AC := .seq (.seq (.reg (.o 7 (.mov (.t 0)) (.o 8 (.len (.t 7)) (.o 9 (.mov (.c (.int .i64 0))) .nil))) []) C42_11) C42_2
def C42_13 : AC := .ret
def C42_14 : AC := .cond (.t 6) (.seq (.reg (.o 2 (.mov (.c (.int .i64 3))) .nil) []) C42_13) .skip
def C42_15 : AC := .seq (.seq (.reg (.o 4 (.mov (.t 0)) (.o 5 (.len (.t 4)) (.o 6 (.bin .gtr (.t 5) (.c (.int .i64 64))) .nil))) []) C42_14) C42_12
def C42_16 : AC := .seq (.reg (.o 2 (.mov (.c (.int .i64 0))) .nil) []) C42_15
def F42 : AFunc := { ntmps := 29, results := [.tmp 2], body := C42_16 }
def p42_0 (x0_1a : Ad) (x0_1l : Nat) (x0_1c : Cap) (M : Mem) : Rs := run false call meth F42.results [.code C42_16] (some (.sl x0_1a x0_1l x0_1c) :: nn 28 []) M
def p42_1 (x0_101a : Ad) (x0_101l : Nat) (x0_101c : Cap) (x8_102 : Int) (x9_103 : Int) (M : Mem) : Rs := run false call meth F42.results [.code C42_9, .inLoop C42_10, .inBlock 0, .code C42_2] (some (.sl x0_101a x0_101l x0_101c) :: nn 7 (some (.int .i64 x8_102) :: some (.int .i64 x9_103) :: nn 19 [])) M
theorem p42_0_eq (x0_1a : Ad) (x0_1l : Nat) (x0_1c : Cap) (M : Mem) : p42_0 call meth x0_1a x0_1l x0_1c M = (cond (decide (((x0_1l : Nat) : Int) > 64)) (some (.int .i64 3, M)) (p42_1 call meth x0_1a x0_1l x0_1c ((x0_1l : Nat) : Int) 0 M)) :=
  (seg_run false call meth F42.results 100000 [.code C42_16] _ M).symm.trans (by kernel_rfl)
theorem p42_1_eq (x0_101a : Ad) (x0_101l : Nat) (x0_101c : Cap) (x8_102 : Int) (x9_103 : Int) (M : Mem) : p42_1 call meth x0_101a x0_101l x0_101c x8_102 x9_103 M = (cond (decide (x9_103 < x8_102)) (cond (decide (x9_103 > 0)) (cond (decide (0 ≤ x9_103)) (cond (Nat.blt x9_103.toNat x0_101l) (Option.bind (slPtr x0_101a x0_101c) fun p201 => (Option.bind (M.ldI .u64 p201.1 ((p201.2 + x9_103.toNat * 2) + 0)) fun x202 => (cond (decide (0 ≤ (IntKind.wrap .i64 (x9_103 - 1)))) (cond (Nat.blt ((IntKind.wrap .i64 (x9_103 - 1)).toNat) x0_101l) (Option.bind (slPtr x0_101a x0_101c) fun p203 => (Option.bind (M.ldI .u64 p203.1 ((p203.2 + ((IntKind.wrap .i64 (x9_103 - 1)).toNat) * 2) + 0)) fun x204 => (cond (decide (x202 ≤ x204)) (some (.int .i64 190, M)) (p42_1 call meth x0_101a x0_101l x0_101c x8_102 (IntKind.wrap .i64 (x9_103 + 1)) M)))) none) none))) none) none) (p42_1 call meth x0_101a x0_101l x0_101c x8_102 (IntKind.wrap .i64 (x9_103 + 1)) M)) (some (.int .i64 0, M))) :=
  (seg_run false call meth F42.results 100000 [.code C42_9, .inLoop C42_10, .inBlock 0, .code C42_2] _ M).symm.trans (by kernel_rfl)
theorem run42 (x0_1a : Ad) (x0_1l : Nat) (x0_1c : Cap) (M : Mem) : run false call meth F42.results [.code F42.body] (frame0 F42 [.sl x0_1a x0_1l x0_1c]) M = p42_0 call meth x0_1a x0_1l x0_1c M := by kernel_rfl
theorem ok42 : okFn Try.prog 42 F42 = true := by kernel_rfl
def C43_1 : AC := .ret
def C43_2 : AC := .seq (.reg (.o 5 (.bslice [] [] 0) (.o 6 (.mov (.t 0)) (.o 7 (.app 2 16 (.t 5) (.t 6)) (.o 2 (.mov (.t 7)) .nil)))) []) C43_1
def C43_3 : AC := .ret
def C43_4 : AC := .cond (.t 4) (.seq (.reg (.o 2 (.mov (.c (.sl none 0 (.known 0)))) .nil) []) C43_3) .skip
def C43_5 : AC := .seq (.seq (.reg (.o 3 (.mov (.t 0)) (.o 4 (.eq false .sl (.t 3) (.c (.sl none 0 (.known 0)))) .nil)) []) C43_4) C43_2
def C43_6 : AC := .seq (.reg (.o 2 (.mov (.c (.sl none 0 (.known 0)))) .nil) []) C43_5
def F43 : AFunc := { ntmps := 8, results := [.tmp 2], body := C43_6 }
def p43_0 (x0_1a : Ad) (x0_1l : Nat) (x0_1c : Cap) (M : Mem) : Rs := run false call meth F43.results [.code C43_6] (some (.sl x0_1a x0_1l x0_1c) :: nn 7 []) M
theorem p43_0_eq (x0_1a : Ad) (x0_1l : Nat) (x0_1c : Cap) (M : Mem) : p43_0 call meth x0_1a x0_1l x0_1c M = (cond x0_1a.isNone (some (.sl none 0 (.known 0), M)) (let M101 := M.alloc ⟨[], .fixed⟩; (appK false 2 16 M101 (some (M.n, 0)) 0 (.known 0) (.sl x0_1a x0_1l x0_1c) fun s102a s102l s102c M103 => (some (.sl s102a s102l s102c, M103))))) :=
  (seg_run false call meth F43.results 100000 [.code C43_6] _ M).symm.trans (by kernel_rfl)
theorem run43 (x0_1a : Ad) (x0_1l : Nat) (x0_1c : Cap) (M : Mem) : run false call meth F43.results [.code F43.body] (frame0 F43 [.sl x0_1a x0_1l x0_1c]) M = p43_0 call meth x0_1a x0_1l x0_1c M := by kernel_rfl
theorem ok43 : okFn Try.prog 43 F43 = true := by kernel_rfl
def C69_1 : AC := .ret
def C69_2 : AC := .seq (.reg (.o 40 (.mov (.t 8)) (.o 41 (.mov (.t 1)) (.o 42 (.call 94 [(.t 40), (.t 41)] (.r (.one (.int .i64)))) (.o 43 (.callP 67 [(.t 42)] (.r (.one (.int .u64)))) (.o 6 (.mov (.t 43)) .nil))))) []) C69_1
def C69_3 : AC := .ret
def C69_4 : AC := .cond (.t 35) (.seq (.reg (.o 36 (.mov (.t 8)) (.o 37 (.mov (.t 1)) (.o 38 (.call 93 [(.t 36), (.t 37)] (.r (.one (.int .i64)))) (.o 39 (.callP 67 [(.t 38)] (.r (.one (.int .u64)))) (.o 6 (.mov (.t 39)) .nil))))) []) C69_3) .skip
def C69_5 : AC := .seq (.seq (.reg (.o 35 (.mov (.t 2)) .nil) []) C69_4) C69_2
def C69_6 : AC := .ret
def C69_7 : AC := .cond (.t 34) (.seq (.reg (.o 6 (.mov (.c (.int .u64 0))) .nil) []) C69_6) .skip
def C69_8 : AC := .seq (.seq (.reg (.o 33 (.mov (.t 9)) (.o 34 (.bin .neq (.t 33) (.c (.int .i64 0))) .nil)) []) C69_7) C69_5
def C69_9 : AC := .seq (.reg (.o 26 (.mov (.t 0)) (.o 27 (.nilCk (.t 26)) (.o 28 (.fldA 0 (.t 27)) (.o 29 (.load1 .ptr (.t 28)) (.o 30 (.call 91 [(.t 29)] (.tup [.one .ptr, .one (.int .i64)])) (.o 25 (.mov (.t 30)) (.o 31 (.ext (.t 25) 0) (.o 32 (.ext (.t 25) 1) (.o 8 (.mov (.t 31)) (.o 9 (.mov (.t 32)) .nil)))))))))) []) C69_8
def C69_10 : AC := .kil (rg 3 41 []) (.pt C69_9)
def C69_11 : AC := .ret
def C69_12 : AC := .cond (.t 24) (.seq (.reg (.o 6 (.mov (.c (.int .u64 0))) .nil) []) C69_11) .skip
def C69_13 : AC := .seq (.seq (.reg (.o 15 (.mov (.t 1)) (.o 16 (.mov (.t 7)) (.o 17 (.neg (.t 16)) (.o 18 (.bin .lss (.t 15) (.t 17)) (.o 19 (.mov (.t 18)) (.grp 19 false (.o 20 (.mov (.t 1)) (.o 21 (.mov (.t 7)) (.o 22 (.bin .sub (.c (.int .i64 2048)) (.t 21)) (.o 23 (.bin .gtr (.t 20) (.t 22)) .nil)))) (.o 24 (.pick (.t 19) (.c (.bool true)) (.t 23)) .nil))))))) []) C69_12) C69_10
def C69_14 : AC := .seq (.reg (.o 10 (.mov (.t 0)) (.o 11 (.nilCk (.t 10)) (.o 12 (.fldA 0 (.t 11)) (.o 13 (.load1 .ptr (.t 12)) (.o 14 (.call 90 [(.t 13)] (.r (.one (.int .i64)))) (.o 7 (.mov (.t 14)) .nil)))))) []) C69_13
def C69_15 : AC := .seq (.reg (.o 6 (.mov (.c (.int .u64 0))) .nil) []) C69_14
def F69 : AFunc := { ntmps := 44, results := [.tmp 6], body := C69_15 }
def p69_0 (x0_1 : Ad) (x1_2 : Int) (x2_3 : Bool) (M : Mem) : Rs := run false call meth F69.results [.code C69_15] (some (.ptr x0_1) :: some (.int .i64 x1_2) :: some (.bool x2_3) :: nn 41 []) M
def p69_1 (x0_105 : Ad) (x1_106 : Int) (x2_107 : Bool) (M : Mem) : Rs := run false call meth F69.results [.code C69_9] (some (.ptr x0_105) :: some (.int .i64 x1_106) :: some (.bool x2_107) :: nn 41 []) M
theorem p69_0_eq (x0_1 : Ad) (x1_2 : Int) (x2_3 : Bool) (M : Mem) : p69_0 call meth x0_1 x1_2 x2_3 M = (Option.bind x0_1 fun p101 => (Option.bind (M.ldP p101.1 (p101.2 + 0)) fun x102 => (Option.bind (call 90 [.ptr x102] M) fun r103 => (Option.bind (r103.1.int? .i64) fun x104 => (cond (decide (x1_2 < (IntKind.wrap .i64 (0 - x104)))) (some (.int .u64 0, r103.2)) (cond (decide (x1_2 > (IntKind.wrap .i64 (2048 - x104)))) (some (.int .u64 0, r103.2)) (p69_1 call meth x0_1 x1_2 x2_3 r103.2))))))) :=
  (seg_run false call meth F69.results 100000 [.code C69_15] _ M).symm.trans (by kernel_rfl)
theorem p69_1_eq (x0_105 : Ad) (x1_106 : Int) (x2_107 : Bool) (M : Mem) : p69_1 call meth x0_105 x1_106 x2_107 M = (Option.bind x0_105 fun p201 => (Option.bind (M.ldP p201.1 (p201.2 + 0)) fun x202 => (Option.bind (call 91 [.ptr x202] M) fun r203 => (Option.bind r203.1.tup? fun l204 => (Option.bind l204.head? fun v205 => (Option.bind (v205.ptr?) fun x206 => (Option.bind l204.tail.head? fun v207 => (Option.bind (v207.int? .i64) fun x208 => (cond l204.tail.tail.isEmpty (cond (x208 != 0) (some (.int .u64 0, r203.2)) (cond x2_107 (Option.bind (call 93 [.ptr x206, .int .i64 x1_106] r203.2) fun r209 => (Option.bind (r209.1.int? .i64) fun x210 => (Option.bind (call 67 [.int .i64 x210] Mem.empty) fun r211 => (Option.bind (r211.1.int? .u64) fun x212 => (some (.int .u64 x212, r209.2)))))) (Option.bind (call 94 [.ptr x206, .int .i64 x1_106] r203.2) fun r213 => (Option.bind (r213.1.int? .i64) fun x214 => (Option.bind (call 67 [.int .i64 x214] Mem.empty) fun r215 => (Option.bind (r215.1.int? .u64) fun x216 => (some (.int .u64 x216, r213.2)))))))) none))))))))) :=
  (seg_run false call meth F69.results 100000 [.code C69_9] _ M).symm.trans (by kernel_rfl)
theorem run69 (x0_1 : Ad) (x1_2 : Int) (x2_3 : Bool) (M : Mem) : run false call meth F69.results [.code F69.body] (frame0 F69 [.ptr x0_1, .int .i64 x1_2, .bool x2_3]) M = p69_0 call meth x0_1 x1_2 x2_3 M := by kernel_rfl
theorem ok69 : okFn Try.prog 69 F69 = true := by kernel_rfl
def C20_1 : AC := .ret
def C20_2 : AC := .seq (.reg (.o 20 (.mov (.t 0)) (.o 21 (.nilCk (.t 20)) (.o 22 (.fldA 1 (.t 21)) (.o 23 (.load1 .ptr (.t 22)) (.o 24 (.build [.bool false, .ptr none] [(0, 1, (.c (.bool true))), (1, 1, (.t 23))]) (.o 25 (.box (.t 24)) (.o 2 (.mov (.t 25)) (.o 3 (.mov (.c (.int .i64 0))) .nil)))))))) []) C20_1
def C20_3 : AC := .seq (.reg (.o 10 (.mov (.t 0)) (.o 11 (.nilCk (.t 10)) (.o 12 (.fldA 1 (.t 11)) (.o 13 (.load1 .ptr (.t 12)) (.o 14 (.nilCk (.t 13)) (.o 15 (.fldA 1 (.t 14)) (.o 16 (.load1 (.int .i64) (.t 15)) (.o 17 (.bin .add (.t 16) (.c (.int .i64 1))) (.o 18 (.nilCk (.t 13)) (.o 19 (.fldA 1 (.t 18)) (.op none (.store 1 (.t 19) (.t 17)) .nil))))))))))) []) C20_2
def C20_4 : AC := .ret
def C20_5 : AC := .cond (.t 8) (.seq (.reg (.o 9 (.mov (.t 4)) (.o 2 (.mov (.c (.ptr none))) (.o 3 (.mov (.t 9)) .nil))) []) C20_4) .skip
def C20_6 : AC := .seq (.reg (.o 7 (.mov (.t 4)) (.o 8 (.bin .neq (.t 7) (.c (.int .i64 0))) .nil)) []) C20_5
def C20_7 : AC := .seq (.seq (.reg (.o 5 (.mov (.t 0)) (.o 6 (.call 44 [(.t 5)] (.r (.one (.int .i64)))) (.o 4 (.mov (.t 6)) .nil))) []) C20_6) C20_3
def C20_8 : AC := .seq (.reg (.o 2 (.mov (.c (.ptr none))) (.o 3 (.mov (.c (.int .i64 0))) .nil)) []) C20_7
def F20 : AFunc := { ntmps := 26, results := [.tmp 2, .tmp 3], body := C20_8 }
theorem ok20 : okFn Try.prog 20 F20 = true := by kernel_rfl
def C27_1 : AC := .ret
def C27_2 : AC := .seq (.reg (.o 2 (.mov (.c (.int .i64 0))) .nil) []) C27_1
def C27_3 : AC := .seq (.reg (.o 19 (.mov (.t 0)) (.o 20 (.nilCk (.t 19)) (.o 21 (.fldA 1 (.t 20)) (.op none (.store 1 (.t 21) (.c (.ptr none))) .nil)))) []) C27_2
def C27_4 : AC := .seq (.reg (.o 9 (.mov (.t 0)) (.o 10 (.nilCk (.t 9)) (.o 11 (.fldA 1 (.t 10)) (.o 12 (.load1 .ptr (.t 11)) (.o 13 (.nilCk (.t 12)) (.o 14 (.fldA 1 (.t 13)) (.o 15 (.load1 (.int .i64) (.t 14)) (.o 16 (.bin .sub (.t 15) (.c (.int .i64 1))) (.o 17 (.nilCk (.t 12)) (.o 18 (.fldA 1 (.t 17)) (.op none (.store 1 (.t 18) (.t 16)) .nil))))))))))) []) C27_3
def C27_5 : AC := .ret
def C27_6 : AC := .cond (.t 7) (.seq (.reg (.o 8 (.mov (.t 3)) (.o 2 (.mov (.t 8)) .nil)) []) C27_5) .skip
def C27_7 : AC := .seq (.reg (.o 6 (.mov (.t 3)) (.o 7 (.bin .neq (.t 6) (.c (.int .i64 0))) .nil)) []) C27_6
def C27_8 : AC := .seq (.seq (.reg (.o 4 (.mov (.t 0)) (.o 5 (.call 44 [(.t 4)] (.r (.one (.int .i64)))) (.o 3 (.mov (.t 5)) .nil))) []) C27_7) C27_4
def C27_9 : AC := .seq (.reg (.o 2 (.mov (.c (.int .i64 0))) .nil) []) C27_8
def F27 : AFunc := { ntmps := 22, results := [.tmp 2], body := C27_9 }
def p27_0 (x0_1 : Ad) (M : Mem) : Rs := run false call meth F27.results [.code C27_9] (some (.ptr x0_1) :: nn 21 []) M
theorem p27_0_eq (x0_1 : Ad) (M : Mem) : p27_0 call meth x0_1 M = (Option.bind (call 44 [.ptr x0_1] M) fun r101 => (Option.bind (r101.1.int? .i64) fun x102 => (cond (x102 != 0) (some (.int .i64 x102, r101.2)) (Option.bind x0_1 fun p103 => (Option.bind (r101.2.ldP p103.1 (p103.2 + 1)) fun x104 => (Option.bind x104 fun p105 => (Option.bind (r101.2.ldI .i64 p105.1 (p105.2 + 1)) fun x106 => (Option.bind x104 fun p107 => (Option.bind (r101.2.st p107.1 (p107.2 + 1) [.int .i64 (IntKind.wrap .i64 (x106 - 1))]) fun M108 => (Option.bind x0_1 fun p109 => (Option.bind (M108.st p109.1 (p109.2 + 1) [.ptr none]) fun M110 => (some (.int .i64 0, M110))))))))))))) :=
  (seg_run false call meth F27.results 100000 [.code C27_9] _ M).symm.trans (by kernel_rfl)
theorem run27 (x0_1 : Ad) (M : Mem) : run false call meth F27.results [.code F27.body] (frame0 F27 [.ptr x0_1]) M = p27_0 call meth x0_1 M := by kernel_rfl
theorem ok27 : okFn Try.prog 27 F27 = true := by kernel_rfl
end
end Go.Proofs.Ytidofnpfeibbfaa.M
