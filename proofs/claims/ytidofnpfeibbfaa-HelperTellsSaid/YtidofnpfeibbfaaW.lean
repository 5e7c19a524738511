/- Ytidofnpfeibbfaa: functions cut into pieces, with an equation for each cut point (printed by ptgen.py). -/
import Derived.Test.YtidofnpfeibbfaaXRen
import Derived.Test.YtidofnpfeibbfaaProg
set_option linter.unusedVariables false
set_option maxRecDepth 100000
namespace Go.Proofs.Ytidofnpfeibbfaa.M
open Go.Abs
/-! sallyport/sallyportlaw24.works -/
def C12_1 : AC := .ret
def C12_2 : AC := .seq (.reg (.op (some 35) (.mov (.t 5)) (.op (some 36) (.bin .eql (.t 35) (.c (.int .i64 0))) (.op (some 37) (.mov (.t 36)) (.grp 37 true (.op (some 38) (.mov (.t 7)) (.op (some 39) (.bin .eql (.t 38) (.c (.int .i64 0))) .nil)) (.op (some 40) (.pick (.t 37) (.t 39) (.c (.bool false))) (.op (some 41) (.mov (.t 40)) (.grp 41 true (.op (some 42) (.mov (.t 9)) (.op (some 43) (.bin .eql (.t 42) (.c (.int .i64 0))) .nil)) (.op (some 44) (.pick (.t 41) (.t 43) (.c (.bool false))) (.op (some 45) (.mov (.t 44)) (.grp 45 true (.op (some 46) (.mov (.t 4)) (.op (some 47) (.bin .eql (.t 46) (.c (.int .u64 515))) .nil)) (.op (some 48) (.pick (.t 45) (.t 47) (.c (.bool false))) (.op (some 49) (.mov (.t 48)) (.grp 49 true (.op (some 50) (.mov (.t 6)) (.op (some 51) (.bin .eql (.t 50) (.c (.int .u64 1))) .nil)) (.op (some 52) (.pick (.t 49) (.t 51) (.c (.bool false))) (.op (some 53) (.mov (.t 52)) (.grp 53 true (.op (some 54) (.mov (.t 8)) (.op (some 55) (.bin .eql (.t 54) (.c (.int .u64 1))) .nil)) (.op (some 56) (.pick (.t 53) (.t 55) (.c (.bool false))) (.op (some 57) (.mov (.t 56)) (.grp 57 true (.op (some 58) (.mov (.t 1)) (.op (some 59) (.call 16 [(.t 58)] (.r (.one .sl))) (.op (some 60) (.bslice (replZ [.int .u8 0] 6) [(0, 1, (.c (.int .u8 0))), (1, 1, (.c (.int .u8 0))), (2, 1, (.c (.int .u8 9))), (3, 1, (.c (.int .u8 2))), (4, 1, (.c (.int .u8 3))), (5, 1, (.c (.int .u8 4)))] 6) (.op (some 61) (.call 22 [(.t 59), (.t 60)] (.r (.one .bool))) .nil)))) (.op (some 62) (.pick (.t 57) (.t 61) (.c (.bool false))) (.op (some 0) (.mov (.t 62)) .nil))))))))))))))))))))) []) C12_1
def C12_3 : AC := .seq (.reg (.op (some 30) (.mov (.t 2)) (.op (some 31) (.callP 25 [(.c (.int .u64 2)), (.c (.int .u64 0)), (.c (.int .u64 0))] (.r (.agg [.int .u64, .int .u64, .int .u64, .int .u64, .int .u64]))) (.op (some 32) (.call 17 [(.t 30), (.c (.int .i32 3)), (.t 31)] (.tup [.one (.int .u64), .one (.int .i64)])) (.op (some 29) (.mov (.t 32)) (.op (some 33) (.ext (.t 29) 0) (.op (some 34) (.ext (.t 29) 1) (.op (some 8) (.mov (.t 33)) (.op (some 9) (.mov (.t 34)) .nil)))))))) []) C12_2
def C12_4 : AC := .seq (.reg (.op (some 24) (.mov (.t 2)) (.op (some 25) (.callP 25 [(.c (.int .u64 0)), (.c (.int .u64 1)), (.c (.int .u64 9))] (.r (.agg [.int .u64, .int .u64, .int .u64, .int .u64, .int .u64]))) (.op (some 26) (.call 17 [(.t 24), (.c (.int .i32 2)), (.t 25)] (.tup [.one (.int .u64), .one (.int .i64)])) (.op (some 23) (.mov (.t 26)) (.op (some 27) (.ext (.t 23) 0) (.op (some 28) (.ext (.t 23) 1) (.op (some 6) (.mov (.t 27)) (.op (some 7) (.mov (.t 28)) .nil)))))))) []) C12_3
def C12_5 : AC := .seq (.reg (.op (some 18) (.mov (.t 2)) (.op (some 19) (.callP 25 [(.c (.int .u64 1)), (.c (.int .u64 2)), (.c (.int .u64 0))] (.r (.agg [.int .u64, .int .u64, .int .u64, .int .u64, .int .u64]))) (.op (some 20) (.call 17 [(.t 18), (.c (.int .i32 1)), (.t 19)] (.tup [.one (.int .u64), .one (.int .i64)])) (.op (some 17) (.mov (.t 20)) (.op (some 21) (.ext (.t 17) 0) (.op (some 22) (.ext (.t 17) 1) (.op (some 4) (.mov (.t 21)) (.op (some 5) (.mov (.t 22)) .nil)))))))) []) C12_4
def C12_6 : AC := .ret
def C12_7 : AC := .cond (.t 16) (.seq (.reg (.op (some 0) (.mov (.c (.bool false))) .nil) []) C12_6) .skip
def C12_8 : AC := .seq (.seq (.reg (.op (some 15) (.mov (.t 3)) (.op (some 16) (.not (.t 15)) .nil)) []) C12_7) C12_5
def C12_9 : AC := .seq (.reg (.op (some 11) (.call 24 [] (.tup [.one .ptr, .one .ptr, .one .bool])) (.op (some 10) (.mov (.t 11)) (.op (some 12) (.ext (.t 10) 0) (.op (some 13) (.ext (.t 10) 1) (.op (some 14) (.ext (.t 10) 2) (.op (some 1) (.mov (.t 12)) (.op (some 2) (.mov (.t 13)) (.op (some 3) (.mov (.t 14)) .nil)))))))) []) C12_8
def C12_10 : AC := .seq (.reg (.op (some 0) (.mov (.c (.bool false))) .nil) []) C12_9
def F12 : AFunc := { ntmps := 63, results := [.tmp 0], body := C12_10 }
theorem ok12 : okFn Try.prog 12 F12 = true := by kernel_rfl
/-! sallyport/share.New -/
def C14_1 : AC := .ret
def C14_2 : AC := .seq (.reg (.op (some 14) (.mov (.t 4)) (.op (some 15) (.build [.bool false, .ptr none] [(0, 1, (.c (.bool true))), (1, 1, (.t 14))]) (.op (some 16) (.box (.t 15)) (.op (some 2) (.mov (.t 16)) (.op (some 3) (.mov (.c (.int .i64 0))) .nil))))) []) C14_1
def C14_3 : AC := .ret
def C14_4 : AC := .cond (.t 12) (.seq (.reg (.op (some 13) (.mov (.t 5)) (.op (some 2) (.mov (.c (.ptr none))) (.op (some 3) (.mov (.t 13)) .nil))) []) C14_3) .skip
def C14_5 : AC := .seq (.seq (.reg (.op (some 11) (.mov (.t 5)) (.op (some 12) (.bin .neq (.t 11) (.c (.int .i64 0))) .nil)) []) C14_4) C14_2
def C14_6 : AC := .seq (.reg (.op (some 7) (.mov (.t 0)) (.op (some 8) (.call 39 [(.t 7)] (.tup [.one .ptr, .one (.int .i64)])) (.op (some 6) (.mov (.t 8)) (.op (some 9) (.ext (.t 6) 0) (.op (some 10) (.ext (.t 6) 1) (.op (some 4) (.mov (.t 9)) (.op (some 5) (.mov (.t 10)) .nil))))))) []) C14_5
def C14_7 : AC := .seq (.reg (.op (some 2) (.mov (.c (.ptr none))) (.op (some 3) (.mov (.c (.int .i64 0))) .nil)) []) C14_6
def F14 : AFunc := { ntmps := 17, results := [.tmp 2, .tmp 3], body := C14_7 }
theorem ok14 : okFn Try.prog 14 F14 = true := by kernel_rfl
/-! sallyport/helper.New -/
def C15_1 : AC := .ret
def C15_2 : AC := .seq (.reg (.op (some 52) (.mov (.t 9)) (.op (some 6) (.mov (.t 52)) (.op (some 7) (.mov (.c (.int .i64 0))) .nil))) []) C15_1
def C15_3 : AC := .ret
def C15_4 : AC := .cond (.t 51) (.seq (.reg (.op (some 6) (.mov (.c (.ptr none))) (.op (some 7) (.mov (.c (.int .i64 3))) .nil)) []) C15_3) .skip
def C15_5 : AC := .seq (.seq (.reg (.op (some 49) (.mov (.t 2)) (.op (some 50) (.len (.t 49)) (.op (some 51) (.bin .gtr (.t 50) (.c (.int .i64 8))) .nil))) []) C15_4) C15_2
def C15_6 : AC := .reg (.op (some 48) (.bin .add (.t 28) (.c (.int .i64 1))) (.op (some 28) (.mov (.t 48)) .nil)) []
def C15_7 : AC := .drw (.op (some 37) (.mov (.t 9)) (.op (some 38) (.mov (.t 9)) (.op (some 39) (.nilCk (.t 38)) (.op (some 40) (.fldA 1 (.t 39)) (.op (some 41) (.load1 .sl (.t 40)) (.op (some 42) (.mov (.t 11)) (.op (some 43) (.call 43 [(.t 42)] (.r (.one .sl))) (.op (some 44) (.bslice [.sl none 0 (.known 0)] [(0, 1, (.t 43))] 1) (.op (some 45) (.app 1 24 (.t 41) (.t 44)) (.op (some 46) (.nilCk (.t 37)) (.op (some 47) (.fldA 1 (.t 46)) (.op none (.store 1 (.t 47) (.t 45)) .nil)))))))))))) [(4, 6), (4, 7)] []
def C15_8 : AC := .ret
def C15_9 : AC := .cond (.t 35) (.seq (.reg (.op (some 36) (.mov (.t 12)) (.op (some 6) (.mov (.c (.ptr none))) (.op (some 7) (.mov (.t 36)) .nil))) []) C15_8) .skip
def C15_10 : AC := .seq (.reg (.op (some 34) (.mov (.t 12)) (.op (some 35) (.bin .neq (.t 34) (.c (.int .i64 0))) .nil)) []) C15_9
def C15_11 : AC := .seq (.seq (.reg (.op (some 32) (.mov (.t 11)) (.op (some 33) (.call 42 [(.t 32)] (.r (.one (.int .i64)))) (.op (some 12) (.mov (.t 33)) .nil))) []) C15_10) C15_7
def C15_12 : AC := .seq (.block 1 (.seq (.reg (.op (some 30) (.ixS 1 (.t 26) (.t 28)) (.op (some 31) (.load1 .sl (.t 30)) (.op (some 11) (.mov (.t 31)) .nil))) []) C15_11)) C15_6
def C15_13 : AC := .seq (.cond (.t 29) .skip (.exit 0)) C15_12
def C15_14 : AC := .seq (.reg (.op (some 29) (.bin .lss (.t 28) (.t 27)) .nil) []) C15_13
def C15_15 : AC := .kil [0, 1, 3, 4, 5, 6, 7, 8, 10, 11, 12, 13, 14, 15, 16, 17, 18, 19, 20, 21, 22, 23, 24, 25, 29, 30, 31, 32, 33, 34, 35, 36, 37, 38, 39, 40, 41, 42, 43, 44, 45, 46, 47, 48, 49, 50, 51, 52] (.pt C15_14)
def C15_16 : AC := .block 0 (.loop C15_15)
def C15_17 : AC := .seq (.seq (.reg (.op (some 26) (.mov (.t 1)) (.op (some 27) (.len (.t 26)) (.op (some 28) (.mov (.c (.int .i64 0))) .nil))) []) C15_16) C15_5
def C15_18 : AC := .seq (.reg (.op (some 21) (.mov (.t 0)) (.op (some 22) (.mov (.t 2)) (.op (some 23) (.call 41 [(.t 22)] (.r (.one .sl))) (.op (some 24) (.build [.ptr none, .sl none 0 (.known 0), .sl none 0 (.known 0), .sl none 0 (.known 0), .int .i64 0] [(0, 1, (.t 21)), (2, 1, (.t 23)), (4, 1, (.c (.int .i64 (-1))))]) (.op (some 25) (.box (.t 24)) (.op (some 9) (.mov (.t 25)) .nil)))))) []) C15_17
def C15_19 : AC := .ret
def C15_20 : AC := .cond (.t 20) (.seq (.reg (.op (some 6) (.mov (.c (.ptr none))) (.op (some 7) (.mov (.c (.int .i64 3))) .nil)) []) C15_19) .skip
def C15_21 : AC := .seq (.seq (.reg (.op (some 18) (.mov (.t 1)) (.op (some 19) (.len (.t 18)) (.op (some 20) (.bin .gtr (.t 19) (.c (.int .i64 4))) .nil))) []) C15_20) C15_18
def C15_22 : AC := .ret
def C15_23 : AC := .cond (.t 16) (.seq (.reg (.op (some 17) (.mov (.t 8)) (.op (some 6) (.mov (.c (.ptr none))) (.op (some 7) (.mov (.t 17)) .nil))) []) C15_22) .skip
def C15_24 : AC := .seq (.reg (.op (some 15) (.mov (.t 8)) (.op (some 16) (.bin .neq (.t 15) (.c (.int .i64 0))) .nil)) []) C15_23
def C15_25 : AC := .seq (.seq (.reg (.op (some 13) (.mov (.t 0)) (.op (some 14) (.call 40 [(.t 13)] (.r (.one (.int .i64)))) (.op (some 8) (.mov (.t 14)) .nil))) []) C15_24) C15_21
def C15_26 : AC := .seq (.reg (.op (some 6) (.mov (.c (.ptr none))) (.op (some 7) (.mov (.c (.int .i64 0))) .nil)) []) C15_25
def F15 : AFunc := { ntmps := 53, results := [.tmp 6, .tmp 7], body := C15_26 }
theorem ok15 : okFn Try.prog 15 F15 = true := by kernel_rfl
/-! (*sallyport/share.Share).Bytes -/
def C16_1 : AC := .ret
def C16_2 : AC := .seq (.reg (.op (some 6) (.mov (.t 0)) (.op (some 7) (.nilCk (.t 6)) (.op (some 8) (.fldA 1 (.t 7)) (.op (some 9) (.load1 .ptr (.t 8)) (.op (some 10) (.nilCk (.t 9)) (.op (some 11) (.fldA 0 (.t 10)) (.op (some 12) (.load1 .ptr (.t 11)) (.op (some 13) (.call 45 [(.t 12)] (.r (.one .sl))) (.op (some 2) (.mov (.t 13)) .nil))))))))) []) C16_1
def C16_3 : AC := .ret
def C16_4 : AC := .cond (.t 5) (.seq (.reg (.op (some 2) (.mov (.c (.sl none 0 (.known 0)))) .nil) []) C16_3) .skip
def C16_5 : AC := .seq (.seq (.reg (.op (some 3) (.mov (.t 0)) (.op (some 4) (.call 44 [(.t 3)] (.r (.one (.int .i64)))) (.op (some 5) (.bin .neq (.t 4) (.c (.int .i64 0))) .nil))) []) C16_4) C16_2
def C16_6 : AC := .seq (.reg (.op (some 2) (.mov (.c (.sl none 0 (.known 0)))) .nil) []) C16_5
def F16 : AFunc := { ntmps := 14, results := [.tmp 2], body := C16_6 }
theorem ok16 : okFn Try.prog 16 F16 = true := by kernel_rfl
/-! (*sallyport/helper.Hands).Call -/
def C17_1 : AC := .ret
def C17_2 : AC := .seq (.reg (.op (some 44) (.mov (.t 0)) (.op (some 45) (.mov (.t 1)) (.op (some 46) (.ixA 5 1 (.t 5) (.c (.int .i64 0))) (.op (some 47) (.load1 (.int .u64) (.t 46)) (.op (some 48) (.ixA 5 1 (.t 5) (.c (.int .i64 1))) (.op (some 49) (.load1 (.int .u64) (.t 48)) (.op (some 50) (.ixA 5 1 (.t 5) (.c (.int .i64 2))) (.op (some 51) (.load1 (.int .u64) (.t 50)) (.op (some 52) (.call 47 [(.t 44), (.t 45), (.t 47), (.t 49), (.t 51)] (.r (.one (.int .u64)))) (.op (some 6) (.mov (.t 52)) (.op (some 7) (.mov (.c (.int .i64 0))) .nil))))))))))) []) C17_1
def C17_3 : AC := .kil [2, 3, 4, 6, 7, 8, 9, 10, 11, 12, 13, 14, 15, 16, 17, 18, 19, 20, 21, 22, 23, 24, 25, 26, 27, 28, 29, 30, 31, 32, 33, 34, 35, 36, 37, 38, 39, 40, 41, 42, 43, 44, 45, 46, 47, 48, 49, 50, 51, 52] (.pt C17_2)
def C17_4 : AC := .ret
def C17_5 : AC := .cond (.t 43) (.seq (.reg (.op (some 6) (.mov (.c (.int .u64 0))) (.op (some 7) (.mov (.c (.int .i64 180))) .nil)) []) C17_4) .skip
def C17_6 : AC := .seq (.drw (.op (some 27) (.mov (.t 10)) (.op (some 28) (.not (.t 27)) (.op (some 29) (.mov (.t 28)) (.grp 29 false (.op (some 30) (.mov (.t 1)) (.op (some 31) (.bin .eql (.t 30) (.c (.int .i32 8))) (.op (some 32) (.mov (.t 31)) (.grp 32 true (.op (some 33) (.ixA 5 1 (.t 5) (.c (.int .i64 0))) (.op (some 34) (.load1 (.int .u64) (.t 33)) (.op (some 35) (.mov (.t 0)) (.op (some 36) (.nilCk (.t 35)) (.op (some 37) (.fldA 1 (.t 36)) (.op (some 38) (.load1 .sl (.t 37)) (.op (some 39) (.len (.t 38)) (.op (some 40) (.convI .u64 (.t 39)) (.op (some 41) (.bin .geq (.t 34) (.t 40)) .nil))))))))) (.op (some 42) (.pick (.t 32) (.t 41) (.c (.bool false))) .nil))))) (.op (some 43) (.pick (.t 29) (.c (.bool true)) (.t 42)) .nil))))) [] []) C17_5
def C17_7 : AC := .seq (.seq (.reg (.op (some 23) (.mov (.t 1)) (.op (some 24) (.callP 8 [(.t 23)] (.tup [.one (.int .i64), .one .bool])) (.op (some 22) (.mov (.t 24)) (.op (some 25) (.ext (.t 22) 0) (.op (some 26) (.ext (.t 22) 1) (.op (some 9) (.mov (.t 25)) (.op (some 10) (.mov (.t 26)) .nil))))))) []) C17_6) C17_3
def C17_8 : AC := .ret
def C17_9 : AC := .cond (.t 20) (.seq (.reg (.op (some 21) (.mov (.t 8)) (.op (some 6) (.mov (.c (.int .u64 0))) (.op (some 7) (.mov (.t 21)) .nil))) []) C17_8) .skip
def C17_10 : AC := .seq (.reg (.op (some 19) (.mov (.t 8)) (.op (some 20) (.bin .neq (.t 19) (.c (.int .i64 0))) .nil)) []) C17_9
def C17_11 : AC := .seq (.seq (.reg (.op (some 14) (.mov (.t 0)) (.op (some 15) (.nilCk (.t 14)) (.op (some 16) (.fldA 0 (.t 15)) (.op (some 17) (.load1 .ptr (.t 16)) (.op (some 18) (.call 40 [(.t 17)] (.r (.one (.int .i64)))) (.op (some 8) (.mov (.t 18)) .nil)))))) []) C17_10) C17_7
def C17_12 : AC := .ret
def C17_13 : AC := .cond (.t 13) (.seq (.reg (.op (some 6) (.mov (.c (.int .u64 0))) (.op (some 7) (.mov (.c (.int .i64 1))) .nil)) []) C17_12) .skip
def C17_14 : AC := .seq (.seq (.reg (.op (some 11) (.mov (.t 0)) (.op (some 12) (.call 46 [(.t 11)] (.r (.one .bool))) (.op (some 13) (.not (.t 12)) .nil))) []) C17_13) C17_11
def C17_15 : AC := .seq (.reg (.op (some 5) (.box (.t 2)) (.op (some 6) (.mov (.c (.int .u64 0))) (.op (some 7) (.mov (.c (.int .i64 0))) .nil))) []) C17_14
def F17 : AFunc := { ntmps := 53, results := [.tmp 6, .tmp 7], body := C17_15 }
theorem ok17 : okFn Try.prog 17 F17 = true := by kernel_rfl
/-! sallyport/sallyportref00.EqBytes -/
def C22_1 : AC := .ret
def C22_2 : AC := .seq (.reg (.op (some 4) (.mov (.c (.bool true))) .nil) []) C22_1
def C22_3 : AC := .reg (.op (some 15) (.mov (.t 5)) (.op (some 16) (.bin .add (.t 15) (.c (.int .i64 1))) (.op (some 5) (.mov (.t 16)) .nil))) []
def C22_4 : AC := .ret
def C22_5 : AC := .cond (.t 25) (.seq (.reg (.op (some 4) (.mov (.c (.bool false))) .nil) []) C22_4) .skip
def C22_6 : AC := .seq (.block 1 (.seq (.drw (.op (some 17) (.mov (.t 0)) (.op (some 18) (.mov (.t 5)) (.op (some 19) (.ixS 1 (.t 17) (.t 18)) (.op (some 20) (.load1 (.int .u8) (.t 19)) (.op (some 21) (.mov (.t 1)) (.op (some 22) (.mov (.t 5)) (.op (some 23) (.ixS 1 (.t 21) (.t 22)) (.op (some 24) (.load1 (.int .u8) (.t 23)) (.op (some 25) (.bin .neq (.t 20) (.t 24)) .nil))))))))) [] []) C22_5)) C22_3
def C22_7 : AC := .cond (.t 14) .skip (.exit 0)
def C22_8 : AC := .seq (.seq (.reg (.op (some 11) (.mov (.t 5)) (.op (some 12) (.mov (.t 0)) (.op (some 13) (.len (.t 12)) (.op (some 14) (.bin .lss (.t 11) (.t 13)) .nil)))) []) C22_7) C22_6
def C22_9 : AC := .kil [2, 3, 4, 6, 7, 8, 9, 10, 11, 12, 13, 14, 15, 16, 17, 18, 19, 20, 21, 22, 23, 24, 25] (.pt C22_8)
def C22_10 : AC := .block 0 (.loop C22_9)
def C22_11 : AC := .seq (.seq (.reg (.op (some 5) (.mov (.c (.int .i64 0))) .nil) []) C22_10) C22_2
def C22_12 : AC := .ret
def C22_13 : AC := .cond (.t 10) (.seq (.reg (.op (some 4) (.mov (.c (.bool false))) .nil) []) C22_12) .skip
def C22_14 : AC := .seq (.seq (.reg (.op (some 6) (.mov (.t 0)) (.op (some 7) (.len (.t 6)) (.op (some 8) (.mov (.t 1)) (.op (some 9) (.len (.t 8)) (.op (some 10) (.bin .neq (.t 7) (.t 9)) .nil))))) []) C22_13) C22_11
def C22_15 : AC := .seq (.reg (.op (some 4) (.mov (.c (.bool false))) .nil) []) C22_14
def F22 : AFunc := { ntmps := 26, results := [.tmp 4], body := C22_15 }
theorem ok22 : okFn Try.prog 22 F22 = true := by kernel_rfl
/-! sallyport/sallyportlaw24.four -/
def C24_1 : AC := .ret
def C24_2 : AC := .seq (.reg (.op (some 20) (.mov (.t 3)) (.op (some 21) (.mov (.t 5)) (.op (some 22) (.mov (.t 4)) (.op (some 23) (.bin .eql (.t 22) (.c (.int .i64 0))) (.op (some 24) (.mov (.t 23)) (.grp 24 true (.op (some 25) (.mov (.t 6)) (.op (some 26) (.bin .eql (.t 25) (.c (.int .i64 0))) .nil)) (.op (some 27) (.pick (.t 24) (.t 26) (.c (.bool false))) (.op (some 0) (.mov (.t 20)) (.op (some 1) (.mov (.t 21)) (.op (some 2) (.mov (.t 27)) .nil)))))))))) []) C24_1
def C24_3 : AC := .seq (.reg (.op (some 13) (.mov (.t 3)) (.op (some 14) (.build [.int .u64 0, .int .u64 0] [(0, 1, (.c (.int .u64 7))), (1, 1, (.c (.int .u64 2)))]) (.op (some 15) (.bslice [.int .u64 0, .int .u64 0] [(0, 2, (.t 14))] 1) (.op (some 16) (.bslice [.sl none 0 (.known 0)] [(0, 1, (.t 15))] 1) (.op (some 17) (.call 15 [(.t 13), (.t 16), (.c (.sl none 0 (.known 0)))] (.tup [.one .ptr, .one (.int .i64)])) (.op (some 12) (.mov (.t 17)) (.op (some 18) (.ext (.t 12) 0) (.op (some 19) (.ext (.t 12) 1) (.op (some 5) (.mov (.t 18)) (.op (some 6) (.mov (.t 19)) .nil)))))))))) []) C24_2
def C24_4 : AC := .seq (.reg (.op (some 8) (.bslice [.int .u8 0, .int .u8 0, .int .u8 0, .int .u8 0] [(0, 1, (.c (.int .u8 1))), (1, 1, (.c (.int .u8 2))), (2, 1, (.c (.int .u8 3))), (3, 1, (.c (.int .u8 4)))] 4) (.op (some 9) (.call 14 [(.t 8)] (.tup [.one .ptr, .one (.int .i64)])) (.op (some 7) (.mov (.t 9)) (.op (some 10) (.ext (.t 7) 0) (.op (some 11) (.ext (.t 7) 1) (.op (some 3) (.mov (.t 10)) (.op (some 4) (.mov (.t 11)) .nil))))))) []) C24_3
def C24_5 : AC := .seq (.reg (.op (some 0) (.mov (.c (.ptr none))) (.op (some 1) (.mov (.c (.ptr none))) (.op (some 2) (.mov (.c (.bool false))) .nil))) []) C24_4
def F24 : AFunc := { ntmps := 28, results := [.tmp 0, .tmp 1, .tmp 2], body := C24_5 }
theorem ok24 : okFn Try.prog 24 F24 = true := by kernel_rfl
/-! sallyport/sallyportlaw24.of -/
def C25_1 : AC := .ret
def C25_2 : AC := .seq (.reg (.op (some 7) (.mov (.t 0)) (.op (some 8) (.mov (.t 1)) (.op (some 9) (.mov (.t 2)) (.op (some 10) (.build [.int .u64 0, .int .u64 0, .int .u64 0, .int .u64 0, .int .u64 0] [(0, 1, (.t 7)), (1, 1, (.t 8)), (2, 1, (.t 9))]) (.op none (.store 5 (.t 6) (.t 10)) .nil))))) []) C25_1
def C25_3 : AC := .seq (.reg (.op (some 6) (.alloc [.int .u64 0, .int .u64 0, .int .u64 0, .int .u64 0, .int .u64 0]) .nil) []) C25_2
def F25 : AFunc := { ntmps := 11, results := [.cellA 6 [.int .u64, .int .u64, .int .u64, .int .u64, .int .u64]], body := C25_3 }
theorem ok25 : okFn Try.prog 25 F25 = true := by kernel_rfl
/-! sallyport/share.made -/
def C39_1 : AC := .ret
def C39_2 : AC := .seq (.reg (.op (some 14) (.mov (.t 4)) (.op (some 15) (.build [.ptr none, .int .i64 0] [(0, 1, (.t 14)), (1, 1, (.c (.int .i64 1)))]) (.op (some 16) (.box (.t 15)) (.op (some 2) (.mov (.t 16)) (.op (some 3) (.mov (.c (.int .i64 0))) .nil))))) []) C39_1
def C39_3 : AC := .ret
def C39_4 : AC := .cond (.t 12) (.seq (.reg (.op (some 13) (.mov (.t 5)) (.op (some 2) (.mov (.c (.ptr none))) (.op (some 3) (.mov (.t 13)) .nil))) []) C39_3) .skip
def C39_5 : AC := .seq (.seq (.reg (.op (some 11) (.mov (.t 5)) (.op (some 12) (.bin .neq (.t 11) (.c (.int .i64 0))) .nil)) []) C39_4) C39_2
def C39_6 : AC := .seq (.reg (.op (some 7) (.mov (.t 0)) (.op (some 8) (.call 63 [(.t 7), (.c (.int .i64 64)), (.c (.int .i64 64))] (.tup [.one .ptr, .one (.int .i64)])) (.op (some 6) (.mov (.t 8)) (.op (some 9) (.ext (.t 6) 0) (.op (some 10) (.ext (.t 6) 1) (.op (some 4) (.mov (.t 9)) (.op (some 5) (.mov (.t 10)) .nil))))))) []) C39_5
def C39_7 : AC := .seq (.reg (.op (some 2) (.mov (.c (.ptr none))) (.op (some 3) (.mov (.c (.int .i64 0))) .nil)) []) C39_6
def F39 : AFunc := { ntmps := 17, results := [.tmp 2, .tmp 3], body := C39_7 }
theorem ok39 : okFn Try.prog 39 F39 = true := by kernel_rfl
/-! sallyport/helper.alive -/
def C40_1 : AC := .ret
def C40_2 : AC := .seq (.reg (.op (some 2) (.mov (.c (.int .i64 0))) .nil) []) C40_1
def C40_3 : AC := .ret
def C40_4 : AC := .cond (.t 15) (.seq (.reg (.op (some 16) (.mov (.t 4)) (.op (some 2) (.mov (.t 16)) .nil)) []) C40_3) .skip
def C40_5 : AC := .seq (.reg (.op (some 10) (.mov (.t 4)) (.op (some 11) (.bin .eql (.t 10) (.c (.int .i64 1))) (.op (some 12) (.mov (.t 11)) (.grp 12 false (.op (some 13) (.mov (.t 4)) (.op (some 14) (.bin .eql (.t 13) (.c (.int .i64 40))) .nil)) (.op (some 15) (.pick (.t 12) (.c (.bool true)) (.t 14)) .nil))))) []) C40_4
def C40_6 : AC := .seq (.seq (.reg (.op (some 6) (.mov (.t 0)) (.op (some 7) (.call 64 [(.t 6), (.c (.int .i64 0)), (.c (.int .i64 1))] (.tup [.one (.int .u64), .one (.int .i64)])) (.op (some 5) (.mov (.t 7)) (.op (some 8) (.ext (.t 5) 0) (.op (some 9) (.ext (.t 5) 1) (.op (some 3) (.mov (.t 8)) (.op (some 4) (.mov (.t 9)) .nil))))))) []) C40_5) C40_2
def C40_7 : AC := .seq (.reg (.op (some 2) (.mov (.c (.int .i64 0))) .nil) []) C40_6
def F40 : AFunc := { ntmps := 17, results := [.tmp 2], body := C40_7 }
theorem ok40 : okFn Try.prog 40 F40 = true := by kernel_rfl
/-! slices.Clone[[]sallyport/api.Foreign,sallyport/api.Foreign] -/
def C41_1 : AC := .ret
def C41_2 : AC := .seq (.reg (.op (some 5) (.bslice [] [] 0) (.op (some 6) (.mov (.t 0)) (.op (some 7) (.app 1 16 (.t 5) (.t 6)) (.op (some 2) (.mov (.t 7)) .nil)))) []) C41_1
def C41_3 : AC := .ret
def C41_4 : AC := .cond (.t 4) (.seq (.reg (.op (some 2) (.mov (.c (.sl none 0 (.known 0)))) .nil) []) C41_3) .skip
def C41_5 : AC := .seq (.seq (.reg (.op (some 3) (.mov (.t 0)) (.op (some 4) (.eq false .sl (.t 3) (.c (.sl none 0 (.known 0)))) .nil)) []) C41_4) C41_2
def C41_6 : AC := .seq (.reg (.op (some 2) (.mov (.c (.sl none 0 (.known 0)))) .nil) []) C41_5
def F41 : AFunc := { ntmps := 8, results := [.tmp 2], body := C41_6 }
theorem ok41 : okFn Try.prog 41 F41 = true := by kernel_rfl
/-! sallyport/table.Check -/
def C42_1 : AC := .ret
def C42_2 : AC := .seq (.reg (.op (some 2) (.mov (.c (.int .i64 0))) .nil) []) C42_1
def C42_3 : AC := .reg (.op (some 28) (.bin .add (.t 9) (.c (.int .i64 1))) (.op (some 9) (.mov (.t 28)) .nil)) []
def C42_4 : AC := .ret
def C42_5 : AC := .cond (.t 27) (.seq (.reg (.op (some 2) (.mov (.c (.int .i64 190))) .nil) []) C42_4) .skip
def C42_6 : AC := .seq (.drw (.op (some 12) (.mov (.t 3)) (.op (some 13) (.bin .gtr (.t 12) (.c (.int .i64 0))) (.op (some 14) (.mov (.t 13)) (.grp 14 true (.op (some 15) (.mov (.t 0)) (.op (some 16) (.mov (.t 3)) (.op (some 17) (.ixS 2 (.t 15) (.t 16)) (.op (some 18) (.fldA 0 (.t 17)) (.op (some 19) (.load1 (.int .u64) (.t 18)) (.op (some 20) (.mov (.t 0)) (.op (some 21) (.mov (.t 3)) (.op (some 22) (.bin .sub (.t 21) (.c (.int .i64 1))) (.op (some 23) (.ixS 2 (.t 20) (.t 22)) (.op (some 24) (.fldA 0 (.t 23)) (.op (some 25) (.load1 (.int .u64) (.t 24)) (.op (some 26) (.bin .leq (.t 19) (.t 25)) .nil)))))))))))) (.op (some 27) (.pick (.t 14) (.t 26) (.c (.bool false))) .nil))))) [] []) C42_5
def C42_7 : AC := .seq (.block 1 (.seq (.reg (.op (some 11) (.mov (.t 9)) (.op (some 3) (.mov (.t 11)) .nil)) []) C42_6)) C42_3
def C42_8 : AC := .seq (.cond (.t 10) .skip (.exit 0)) C42_7
def C42_9 : AC := .seq (.reg (.op (some 10) (.bin .lss (.t 9) (.t 8)) .nil) []) C42_8
def C42_10 : AC := .kil [1, 2, 3, 4, 5, 6, 7, 10, 11, 12, 13, 14, 15, 16, 17, 18, 19, 20, 21, 22, 23, 24, 25, 26, 27, 28] (.pt C42_9)
def C42_11 : AC := .block 0 (.loop C42_10)
def C42_12 : AC := .seq (.seq (.reg (.op (some 7) (.mov (.t 0)) (.op (some 8) (.len (.t 7)) (.op (some 9) (.mov (.c (.int .i64 0))) .nil))) []) C42_11) C42_2
def C42_13 : AC := .ret
def C42_14 : AC := .cond (.t 6) (.seq (.reg (.op (some 2) (.mov (.c (.int .i64 3))) .nil) []) C42_13) .skip
def C42_15 : AC := .seq (.seq (.reg (.op (some 4) (.mov (.t 0)) (.op (some 5) (.len (.t 4)) (.op (some 6) (.bin .gtr (.t 5) (.c (.int .i64 64))) .nil))) []) C42_14) C42_12
def C42_16 : AC := .seq (.reg (.op (some 2) (.mov (.c (.int .i64 0))) .nil) []) C42_15
def F42 : AFunc := { ntmps := 29, results := [.tmp 2], body := C42_16 }
theorem ok42 : okFn Try.prog 42 F42 = true := by kernel_rfl
/-! slices.Clone[[]sallyport/api.Pair,sallyport/api.Pair] -/
def C43_1 : AC := .ret
def C43_2 : AC := .seq (.reg (.op (some 5) (.bslice [] [] 0) (.op (some 6) (.mov (.t 0)) (.op (some 7) (.app 2 16 (.t 5) (.t 6)) (.op (some 2) (.mov (.t 7)) .nil)))) []) C43_1
def C43_3 : AC := .ret
def C43_4 : AC := .cond (.t 4) (.seq (.reg (.op (some 2) (.mov (.c (.sl none 0 (.known 0)))) .nil) []) C43_3) .skip
def C43_5 : AC := .seq (.seq (.reg (.op (some 3) (.mov (.t 0)) (.op (some 4) (.eq false .sl (.t 3) (.c (.sl none 0 (.known 0)))) .nil)) []) C43_4) C43_2
def C43_6 : AC := .seq (.reg (.op (some 2) (.mov (.c (.sl none 0 (.known 0)))) .nil) []) C43_5
def F43 : AFunc := { ntmps := 8, results := [.tmp 2], body := C43_6 }
theorem ok43 : okFn Try.prog 43 F43 = true := by kernel_rfl
/-! (*sallyport/share.Share).there -/
def C44_1 : AC := .ret
def C44_2 : AC := .seq (.reg (.op (some 2) (.mov (.c (.int .i64 0))) .nil) []) C44_1
def C44_3 : AC := .ret
def C44_4 : AC := .ret
def C44_5 : AC := .cond (.t 13) (.seq (.reg (.op (some 2) (.mov (.c (.int .i64 40))) .nil) []) C44_4) .skip
def C44_6 : AC := .cond (.t 3) (.seq (.reg (.op (some 2) (.mov (.c (.int .i64 1))) .nil) []) C44_3) (.seq (.reg (.op (some 14) (.mov (.t 0)) (.op (some 15) (.nilCk (.t 14)) (.op (some 16) (.fldA 1 (.t 15)) (.op (some 17) (.load1 .ptr (.t 16)) (.op (some 18) (.eq false .ptr (.t 17) (.c (.ptr none))) (.op (some 13) (.mov (.t 18)) .nil)))))) []) C44_5)
def C44_7 : AC := .seq (.block 0 (.seq (.reg (.op (some 4) (.mov (.t 0)) (.op (some 5) (.eq false .ptr (.t 4) (.c (.ptr none))) (.op (some 6) (.mov (.t 5)) (.grp 6 false (.op (some 7) (.mov (.t 0)) (.op (some 8) (.nilCk (.t 7)) (.op (some 9) (.fldA 0 (.t 8)) (.op (some 10) (.load1 .bool (.t 9)) (.op (some 11) (.not (.t 10)) .nil))))) (.op (some 12) (.pick (.t 6) (.c (.bool true)) (.t 11)) (.op (some 3) (.mov (.t 12)) .nil)))))) []) C44_6)) C44_2
def C44_8 : AC := .seq (.reg (.op (some 2) (.mov (.c (.int .i64 0))) .nil) []) C44_7
def F44 : AFunc := { ntmps := 19, results := [.tmp 2], body := C44_8 }
theorem ok44 : okFn Try.prog 44 F44 = true := by kernel_rfl
/-! (*sallyport/packet.Packet).Bytes -/
def C45_1 : AC := .ret
def C45_2 : AC := .seq (.reg (.op (some 3) (.mov (.t 0)) (.op (some 4) (.call 65 [(.t 3)] (.r (.one .sl))) (.op (some 5) (.call 49 [(.t 4)] (.r (.one .sl))) (.op (some 2) (.mov (.t 5)) .nil)))) []) C45_1
def C45_3 : AC := .seq (.reg (.op (some 2) (.mov (.c (.sl none 0 (.known 0)))) .nil) []) C45_2
def F45 : AFunc := { ntmps := 6, results := [.tmp 2], body := C45_3 }
theorem ok45 : okFn Try.prog 45 F45 = true := by kernel_rfl
/-! (*sallyport/helper.Hands).there -/
def C46_1 : AC := .ret
def C46_2 : AC := .seq (.reg (.op (some 3) (.mov (.t 0)) (.op (some 4) (.eq true .ptr (.t 3) (.c (.ptr none))) (.op (some 5) (.mov (.t 4)) (.grp 5 true (.op (some 6) (.mov (.t 0)) (.op (some 7) (.nilCk (.t 6)) (.op (some 8) (.fldA 0 (.t 7)) (.op (some 9) (.load1 .ptr (.t 8)) (.op (some 10) (.eq true .ptr (.t 9) (.c (.ptr none))) .nil))))) (.op (some 11) (.pick (.t 5) (.t 10) (.c (.bool false))) (.op (some 2) (.mov (.t 11)) .nil)))))) []) C46_1
def C46_3 : AC := .seq (.reg (.op (some 2) (.mov (.c (.bool false))) .nil) []) C46_2
def F46 : AFunc := { ntmps := 12, results := [.tmp 2], body := C46_3 }
theorem ok46 : okFn Try.prog 46 F46 = true := by kernel_rfl
/-! (*sallyport/helper.Hands).help -/
def C47_1 : AC := .ret
def C47_2 : AC := .seq (.reg (.op (some 179) (.mov (.t 16)) (.op (some 10) (.mov (.t 179)) .nil)) []) C47_1
def C47_3 : AC := .ret
def C47_4 : AC := .cond (.t 178) (.seq (.reg (.op (some 10) (.mov (.c (.int .u64 0))) .nil) []) C47_3) .skip
def C47_5 : AC := .seq (.seq (.reg (.op (some 177) (.mov (.t 17)) (.op (some 178) (.bin .neq (.t 177) (.c (.int .i64 0))) .nil)) []) C47_4) C47_2
def C47_6 : AC := .seq (.drw (.op (some 157) (.mov (.t 0)) (.op (some 158) (.nilCk (.t 157)) (.op (some 159) (.fldA 0 (.t 158)) (.op (some 160) (.load1 .ptr (.t 159)) (.op (some 161) (.mov (.t 2)) (.op (some 162) (.convI .i64 (.t 161)) (.op (some 163) (.mov (.t 3)) (.op (some 164) (.convI .i64 (.t 163)) (.op (some 165) (.build [.int .i64 0, .int .i64 0] [(0, 1, (.t 162)), (1, 1, (.t 164))]) (.op (some 166) (.mov (.t 0)) (.op (some 167) (.nilCk (.t 166)) (.op (some 168) (.fldA 2 (.t 167)) (.op (some 169) (.load1 .sl (.t 168)) (.op (some 170) (.mov (.t 15)) (.op (some 171) (.ixS 1 (.t 169) (.t 170)) (.op (some 172) (.load1 .ifc (.t 171)) (.op (some 173) (.mov (.t 4)) (.op (some 174) (.call 72 [(.t 160), (.t 165), (.t 172), (.t 173)] (.tup [.one (.int .u64), .one (.int .i64)])) (.op (some 156) (.mov (.t 174)) (.op (some 175) (.ext (.t 156) 0) (.op (some 176) (.ext (.t 156) 1) (.op (some 16) (.mov (.t 175)) (.op (some 17) (.mov (.t 176)) .nil))))))))))))))))))))))) [] []) C47_5
def C47_7 : AC := .kil [1, 5, 6, 7, 8, 9, 10, 11, 12, 13, 14, 16, 17, 18, 19, 20, 21, 22, 23, 24, 25, 26, 27, 28, 29, 30, 31, 32, 33, 34, 35, 36, 37, 38, 39, 40, 41, 42, 43, 44, 45, 46, 47, 48, 49, 50, 51, 52, 53, 54, 55, 56, 57, 58, 59, 60, 61, 62, 63, 64, 65, 66, 67, 68, 69, 70, 71, 72, 73, 74, 75, 76, 77, 78, 79, 80, 81, 82, 83, 84, 85, 86, 87, 88, 89, 90, 91, 92, 93, 94, 95, 96, 97, 98, 99, 100, 101, 102, 103, 104, 105, 106, 107, 108, 109, 110, 111, 112, 113, 114, 115, 116, 117, 118, 119, 120, 121, 122, 123, 124, 125, 126, 127, 128, 129, 130, 131, 132, 133, 134, 135, 136, 137, 138, 139, 140, 141, 142, 143, 144, 145, 146, 147, 148, 149, 150, 151, 152, 153, 154, 155, 156, 157, 158, 159, 160, 161, 162, 163, 164, 165, 166, 167, 168, 169, 170, 171, 172, 173, 174, 175, 176, 177, 178, 179] (.pt C47_6)
def C47_8 : AC := .ret
def C47_9 : AC := .cond (.t 155) (.seq (.reg (.op (some 10) (.mov (.c (.int .u64 0))) .nil) []) C47_8) .skip
def C47_10 : AC := .seq (.seq (.reg (.op (some 132) (.mov (.t 15)) (.op (some 133) (.mov (.t 0)) (.op (some 134) (.nilCk (.t 133)) (.op (some 135) (.fldA 2 (.t 134)) (.op (some 136) (.load1 .sl (.t 135)) (.op (some 137) (.len (.t 136)) (.op (some 138) (.bin .geq (.t 132) (.t 137)) (.op (some 139) (.mov (.t 138)) (.grp 139 false (.op (some 140) (.mov (.t 0)) (.op (some 141) (.nilCk (.t 140)) (.op (some 142) (.fldA 2 (.t 141)) (.op (some 143) (.load1 .sl (.t 142)) (.op (some 144) (.mov (.t 15)) (.op (some 145) (.ixS 1 (.t 143) (.t 144)) (.op (some 146) (.load1 .ifc (.t 145)) (.op (some 147) (.eq false .ifc (.t 146) (.c (.ifc none (.tup [])))) .nil)))))))) (.op (some 148) (.pick (.t 139) (.c (.bool true)) (.t 147)) (.op (some 149) (.mov (.t 148)) (.grp 149 false (.op (some 150) (.mov (.t 0)) (.op (some 151) (.mov (.t 2)) (.op (some 152) (.mov (.t 3)) (.op (some 153) (.call 66 [(.t 150), (.t 151), (.t 152)] (.r (.one .bool))) (.op (some 154) (.not (.t 153)) .nil))))) (.op (some 155) (.pick (.t 149) (.c (.bool true)) (.t 154)) .nil))))))))))))) []) C47_9) C47_7
def C47_11 : AC := .seq (.reg (.op (some 129) (.mov (.t 1)) (.op (some 130) (.bin .sub (.t 129) (.c (.int .i32 16))) (.op (some 131) (.convI .i64 (.t 130)) (.op (some 15) (.mov (.t 131)) .nil)))) []) C47_10
def C47_12 : AC := .ret
def C47_13 : AC := .seq (.reg (.op (some 40) (.mov (.t 11)) (.op (some 10) (.mov (.t 40)) .nil)) []) C47_12
def C47_14 : AC := .ret
def C47_15 : AC := .cond (.t 39) (.seq (.reg (.op (some 10) (.mov (.c (.int .u64 0))) .nil) []) C47_14) .skip
def C47_16 : AC := .seq (.seq (.reg (.op (some 38) (.mov (.t 12)) (.op (some 39) (.bin .neq (.t 38) (.c (.int .i64 0))) .nil)) []) C47_15) C47_13
def C47_17 : AC := .seq (.reg (.op (some 27) (.mov (.t 0)) (.op (some 28) (.nilCk (.t 27)) (.op (some 29) (.fldA 0 (.t 28)) (.op (some 30) (.load1 .ptr (.t 29)) (.op (some 31) (.mov (.t 2)) (.op (some 32) (.convI .i64 (.t 31)) (.op (some 33) (.mov (.t 3)) (.op (some 34) (.convI .i64 (.t 33)) (.op (some 35) (.call 64 [(.t 30), (.t 32), (.t 34)] (.tup [.one (.int .u64), .one (.int .i64)])) (.op (some 26) (.mov (.t 35)) (.op (some 36) (.ext (.t 26) 0) (.op (some 37) (.ext (.t 26) 1) (.op (some 11) (.mov (.t 36)) (.op (some 12) (.mov (.t 37)) .nil)))))))))))))) []) C47_16
def C47_18 : AC := .ret
def C47_19 : AC := .cond (.t 25) (.seq (.reg (.op (some 10) (.mov (.c (.int .u64 0))) .nil) []) C47_18) .skip
def C47_20 : AC := .seq (.seq (.reg (.op (some 21) (.mov (.t 0)) (.op (some 22) (.mov (.t 2)) (.op (some 23) (.mov (.t 3)) (.op (some 24) (.call 66 [(.t 21), (.t 22), (.t 23)] (.r (.one .bool))) (.op (some 25) (.not (.t 24)) .nil))))) []) C47_19) C47_17
def C47_21 : AC := .ret
def C47_22 : AC := .seq (.reg (.op (some 48) (.mov (.t 0)) (.op (some 49) (.nilCk (.t 48)) (.op (some 50) (.fldA 0 (.t 49)) (.op (some 51) (.load1 .ptr (.t 50)) (.op (some 52) (.mov (.t 2)) (.op (some 53) (.convI .i64 (.t 52)) (.op (some 54) (.mov (.t 3)) (.op (some 55) (.convI .i64 (.t 54)) (.op (some 56) (.mov (.t 4)) (.op (some 57) (.call 68 [(.t 51), (.t 53), (.t 55), (.t 56)] (.r (.one (.int .i64)))) (.op (some 58) (.callP 67 [(.t 57)] (.r (.one (.int .u64)))) (.op (some 10) (.mov (.t 58)) .nil)))))))))))) []) C47_21
def C47_23 : AC := .ret
def C47_24 : AC := .cond (.t 47) (.seq (.reg (.op (some 10) (.mov (.c (.int .u64 0))) .nil) []) C47_23) .skip
def C47_25 : AC := .ret
def C47_26 : AC := .ret
def C47_27 : AC := .ret
def C47_28 : AC := .seq (.reg (.op (some 10) (.mov (.c (.int .u64 1))) .nil) []) C47_27
def C47_29 : AC := .seq (.drw (.op (some 88) (.mov (.t 0)) (.op (some 89) (.mov (.t 0)) (.op (some 90) (.nilCk (.t 89)) (.op (some 91) (.fldA 3 (.t 90)) (.op (some 92) (.load1 .sl (.t 91)) (.op (some 93) (.mov (.t 2)) (.op (some 94) (.convI .i64 (.t 93)) (.op (some 95) (.mov (.t 0)) (.op (some 96) (.nilCk (.t 95)) (.op (some 97) (.fldA 0 (.t 96)) (.op (some 98) (.load1 .ptr (.t 97)) (.op (some 99) (.call 16 [(.t 98)] (.r (.one .sl))) (.op (some 100) (.build [.int .i64 0, .sl none 0 (.known 0)] [(0, 1, (.t 94)), (1, 1, (.t 99))]) (.op (some 101) (.bslice [.int .i64 0, .sl none 0 (.known 0)] [(0, 2, (.t 100))] 1) (.op (some 102) (.app 2 32 (.t 92) (.t 101)) (.op (some 103) (.nilCk (.t 88)) (.op (some 104) (.fldA 3 (.t 103)) (.op none (.store 1 (.t 104) (.t 102)) .nil)))))))))))))))))) [(4, 11), (4, 13)] []) C47_28
def C47_30 : AC := .kil [1, 3, 4, 5, 6, 7, 8, 9, 10, 11, 12, 13, 14, 15, 16, 17, 18, 19, 20, 21, 22, 23, 24, 25, 26, 27, 28, 29, 30, 31, 32, 33, 34, 35, 36, 37, 38, 39, 40, 41, 42, 43, 44, 45, 46, 47, 48, 49, 50, 51, 52, 53, 54, 55, 56, 57, 58, 59, 60, 61, 62, 63, 64, 65, 66, 67, 68, 69, 70, 71, 72, 73, 74, 75, 76, 77, 78, 79, 80, 81, 82, 83, 84, 85, 86, 87, 88, 89, 90, 91, 92, 93, 94, 95, 96, 97, 98, 99, 100, 101, 102, 103, 104, 105, 106, 107, 108, 109, 110, 111, 112, 113, 114, 115, 116, 117, 118, 119, 120, 121, 122, 123, 124, 125, 126, 127, 128, 129, 130, 131, 132, 133, 134, 135, 136, 137, 138, 139, 140, 141, 142, 143, 144, 145, 146, 147, 148, 149, 150, 151, 152, 153, 154, 155, 156, 157, 158, 159, 160, 161, 162, 163, 164, 165, 166, 167, 168, 169, 170, 171, 172, 173, 174, 175, 176, 177, 178, 179] (.pt C47_29)
def C47_31 : AC := .ret
def C47_32 : AC := .cond (.t 87) (.seq (.reg (.op (some 10) (.mov (.c (.int .u64 0))) .nil) []) C47_31) .skip
def C47_33 : AC := .seq (.seq (.reg (.op (some 78) (.mov (.t 2)) (.op (some 79) (.bin .geq (.t 78) (.c (.int .u64 8))) (.op (some 80) (.mov (.t 79)) (.grp 80 false (.op (some 81) (.mov (.t 0)) (.op (some 82) (.nilCk (.t 81)) (.op (some 83) (.fldA 3 (.t 82)) (.op (some 84) (.load1 .sl (.t 83)) (.op (some 85) (.len (.t 84)) (.op (some 86) (.bin .geq (.t 85) (.c (.int .i64 8))) .nil)))))) (.op (some 87) (.pick (.t 80) (.c (.bool true)) (.t 86)) .nil))))) []) C47_32) C47_30
def C47_34 : AC := .ret
def C47_35 : AC := .seq (.reg (.op (some 10) (.mov (.c (.int .u64 1))) .nil) []) C47_34
def C47_36 : AC := .seq (.reg (.op (some 109) (.mov (.t 0)) (.op (some 110) (.mov (.t 2)) (.op (some 111) (.convI .i64 (.t 110)) (.op (some 112) (.nilCk (.t 109)) (.op (some 113) (.fldA 4 (.t 112)) (.op none (.store 1 (.t 113) (.t 111)) .nil)))))) []) C47_35
def C47_37 : AC := .ret
def C47_38 : AC := .cond (.t 108) (.seq (.reg (.op (some 10) (.mov (.c (.int .u64 0))) .nil) []) C47_37) .skip
def C47_39 : AC := .ret
def C47_40 : AC := .seq (.reg (.op (some 128) (.mov (.t 13)) (.op (some 10) (.mov (.t 128)) .nil)) []) C47_39
def C47_41 : AC := .cond (.t 114) (.seq (.reg (.op (some 117) (.mov (.t 0)) (.op (some 118) (.nilCk (.t 117)) (.op (some 119) (.fldA 1 (.t 118)) (.op (some 120) (.load1 .sl (.t 119)) (.op (some 121) (.mov (.t 2)) (.op (some 122) (.ixS 1 (.t 120) (.t 121)) (.op (some 123) (.load1 .sl (.t 122)) (.op (some 124) (.mov (.t 3)) (.op (some 125) (.call 71 [(.t 123), (.t 124)] (.tup [.one (.int .u64), .one .bool])) (.op (some 116) (.mov (.t 125)) (.op (some 126) (.ext (.t 116) 0) (.op (some 127) (.ext (.t 116) 1) (.op (some 13) (.mov (.t 126)) (.op (some 14) (.mov (.t 127)) .nil)))))))))))))) []) C47_40) .skip
def C47_42 : AC := .cond (.t 105) (.seq (.seq (.reg (.op (some 107) (.mov (.t 2)) (.op (some 108) (.bin .geq (.t 107) (.c (.int .u64 8))) .nil)) []) C47_38) C47_36) (.seq (.reg (.op (some 115) (.bin .eql (.t 18) (.c (.int .i32 8))) (.op (some 114) (.mov (.t 115)) .nil)) []) C47_41)
def C47_43 : AC := .cond (.t 76) (.kil [1, 3, 4, 5, 6, 7, 8, 9, 10, 11, 12, 13, 14, 15, 16, 17, 18, 19, 20, 21, 22, 23, 24, 25, 26, 27, 28, 29, 30, 31, 32, 33, 34, 35, 36, 37, 38, 39, 40, 41, 42, 43, 44, 45, 46, 47, 48, 49, 50, 51, 52, 53, 54, 55, 56, 57, 58, 59, 60, 61, 62, 63, 64, 65, 66, 67, 68, 69, 70, 71, 72, 73, 74, 75, 76, 77, 78, 79, 80, 81, 82, 83, 84, 85, 86, 87, 88, 89, 90, 91, 92, 93, 94, 95, 96, 97, 98, 99, 100, 101, 102, 103, 104, 105, 106, 107, 108, 109, 110, 111, 112, 113, 114, 115, 116, 117, 118, 119, 120, 121, 122, 123, 124, 125, 126, 127, 128, 129, 130, 131, 132, 133, 134, 135, 136, 137, 138, 139, 140, 141, 142, 143, 144, 145, 146, 147, 148, 149, 150, 151, 152, 153, 154, 155, 156, 157, 158, 159, 160, 161, 162, 163, 164, 165, 166, 167, 168, 169, 170, 171, 172, 173, 174, 175, 176, 177, 178, 179] (.pt C47_33)) (.seq (.reg (.op (some 106) (.bin .eql (.t 18) (.c (.int .i32 7))) (.op (some 105) (.mov (.t 106)) .nil)) []) C47_42)
def C47_44 : AC := .cond (.t 68) (.seq (.reg (.op (some 70) (.mov (.t 0)) (.op (some 71) (.mov (.t 2)) (.op (some 72) (.mov (.t 3)) (.op (some 73) (.mov (.t 4)) (.op (some 74) (.convI .u16 (.t 73)) (.op (some 75) (.call 70 [(.t 70), (.t 71), (.t 72), (.t 74)] (.r (.one (.int .u64)))) (.op (some 10) (.mov (.t 75)) .nil))))))) []) C47_26) (.seq (.reg (.op (some 77) (.bin .eql (.t 18) (.c (.int .i32 6))) (.op (some 76) (.mov (.t 77)) .nil)) []) C47_43)
def C47_45 : AC := .cond (.t 59) (.seq (.reg (.op (some 62) (.mov (.t 0)) (.op (some 63) (.mov (.t 2)) (.op (some 64) (.convI .i64 (.t 63)) (.op (some 65) (.mov (.t 1)) (.op (some 66) (.bin .eql (.t 65) (.c (.int .i32 3))) (.op (some 67) (.call 69 [(.t 62), (.t 64), (.t 66)] (.r (.one (.int .u64)))) (.op (some 10) (.mov (.t 67)) .nil))))))) []) C47_25) (.seq (.reg (.op (some 69) (.bin .eql (.t 18) (.c (.int .i32 5))) (.op (some 68) (.mov (.t 69)) .nil)) []) C47_44)
def C47_46 : AC := .kil [5, 6, 7, 8, 9, 10, 11, 12, 13, 14, 15, 16, 17, 19, 20, 21, 22, 23, 24, 25, 26, 27, 28, 29, 30, 31, 32, 33, 34, 35, 36, 37, 38, 39, 40, 41, 42, 43, 44, 45, 46, 47, 48, 49, 50, 51, 52, 53, 54, 55, 56, 57, 58, 60, 61, 62, 63, 64, 65, 66, 67, 68, 69, 70, 71, 72, 73, 74, 75, 76, 77, 78, 79, 80, 81, 82, 83, 84, 85, 86, 87, 88, 89, 90, 91, 92, 93, 94, 95, 96, 97, 98, 99, 100, 101, 102, 103, 104, 105, 106, 107, 108, 109, 110, 111, 112, 113, 114, 115, 116, 117, 118, 119, 120, 121, 122, 123, 124, 125, 126, 127, 128, 129, 130, 131, 132, 133, 134, 135, 136, 137, 138, 139, 140, 141, 142, 143, 144, 145, 146, 147, 148, 149, 150, 151, 152, 153, 154, 155, 156, 157, 158, 159, 160, 161, 162, 163, 164, 165, 166, 167, 168, 169, 170, 171, 172, 173, 174, 175, 176, 177, 178, 179] (.pt C47_45)
def C47_47 : AC := .cond (.t 59) .skip (.reg (.op (some 61) (.bin .eql (.t 18) (.c (.int .i32 4))) (.op (some 59) (.mov (.t 61)) .nil)) [])
def C47_48 : AC := .seq (.seq (.reg (.op (some 60) (.bin .eql (.t 18) (.c (.int .i32 3))) (.op (some 59) (.mov (.t 60)) .nil)) []) C47_47) C47_46
def C47_49 : AC := .cond (.t 41) (.seq (.seq (.reg (.op (some 43) (.mov (.t 0)) (.op (some 44) (.mov (.t 2)) (.op (some 45) (.mov (.t 3)) (.op (some 46) (.call 66 [(.t 43), (.t 44), (.t 45)] (.r (.one .bool))) (.op (some 47) (.not (.t 46)) .nil))))) []) C47_24) C47_22) (.kil [5, 6, 7, 8, 9, 10, 11, 12, 13, 14, 15, 16, 17, 19, 20, 21, 22, 23, 24, 25, 26, 27, 28, 29, 30, 31, 32, 33, 34, 35, 36, 37, 38, 39, 40, 41, 42, 43, 44, 45, 46, 47, 48, 49, 50, 51, 52, 53, 54, 55, 56, 57, 58, 59, 60, 61, 62, 63, 64, 65, 66, 67, 68, 69, 70, 71, 72, 73, 74, 75, 76, 77, 78, 79, 80, 81, 82, 83, 84, 85, 86, 87, 88, 89, 90, 91, 92, 93, 94, 95, 96, 97, 98, 99, 100, 101, 102, 103, 104, 105, 106, 107, 108, 109, 110, 111, 112, 113, 114, 115, 116, 117, 118, 119, 120, 121, 122, 123, 124, 125, 126, 127, 128, 129, 130, 131, 132, 133, 134, 135, 136, 137, 138, 139, 140, 141, 142, 143, 144, 145, 146, 147, 148, 149, 150, 151, 152, 153, 154, 155, 156, 157, 158, 159, 160, 161, 162, 163, 164, 165, 166, 167, 168, 169, 170, 171, 172, 173, 174, 175, 176, 177, 178, 179] (.pt C47_48))
def C47_50 : AC := .cond (.t 19) (.kil [1, 4, 5, 6, 7, 8, 9, 10, 11, 12, 13, 14, 15, 16, 17, 18, 19, 20, 21, 22, 23, 24, 25, 26, 27, 28, 29, 30, 31, 32, 33, 34, 35, 36, 37, 38, 39, 40, 41, 42, 43, 44, 45, 46, 47, 48, 49, 50, 51, 52, 53, 54, 55, 56, 57, 58, 59, 60, 61, 62, 63, 64, 65, 66, 67, 68, 69, 70, 71, 72, 73, 74, 75, 76, 77, 78, 79, 80, 81, 82, 83, 84, 85, 86, 87, 88, 89, 90, 91, 92, 93, 94, 95, 96, 97, 98, 99, 100, 101, 102, 103, 104, 105, 106, 107, 108, 109, 110, 111, 112, 113, 114, 115, 116, 117, 118, 119, 120, 121, 122, 123, 124, 125, 126, 127, 128, 129, 130, 131, 132, 133, 134, 135, 136, 137, 138, 139, 140, 141, 142, 143, 144, 145, 146, 147, 148, 149, 150, 151, 152, 153, 154, 155, 156, 157, 158, 159, 160, 161, 162, 163, 164, 165, 166, 167, 168, 169, 170, 171, 172, 173, 174, 175, 176, 177, 178, 179] (.pt C47_20)) (.seq (.reg (.op (some 42) (.bin .eql (.t 18) (.c (.int .i32 2))) (.op (some 41) (.mov (.t 42)) .nil)) []) C47_49)
def C47_51 : AC := .block 0 (.seq (.reg (.op (some 20) (.bin .eql (.t 18) (.c (.int .i32 1))) (.op (some 19) (.mov (.t 20)) .nil)) []) C47_50)
def C47_52 : AC := .seq (.seq (.reg (.op (some 18) (.mov (.t 1)) .nil) []) C47_51) C47_11
def C47_53 : AC := .seq (.reg (.op (some 10) (.mov (.c (.int .u64 0))) .nil) []) C47_52
def F47 : AFunc := { ntmps := 180, results := [.tmp 10], body := C47_53 }
theorem ok47 : okFn Try.prog 47 F47 = true := by kernel_rfl
/-! slices.Clone[[]byte,byte] -/
def C49_1 : AC := .ret
def C49_2 : AC := .seq (.reg (.op (some 5) (.bslice [] [] 0) (.op (some 6) (.mov (.t 0)) (.op (some 7) (.app 1 1 (.t 5) (.t 6)) (.op (some 2) (.mov (.t 7)) .nil)))) []) C49_1
def C49_3 : AC := .ret
def C49_4 : AC := .cond (.t 4) (.seq (.reg (.op (some 2) (.mov (.c (.sl none 0 (.known 0)))) .nil) []) C49_3) .skip
def C49_5 : AC := .seq (.seq (.reg (.op (some 3) (.mov (.t 0)) (.op (some 4) (.eq false .sl (.t 3) (.c (.sl none 0 (.known 0)))) .nil)) []) C49_4) C49_2
def C49_6 : AC := .seq (.reg (.op (some 2) (.mov (.c (.sl none 0 (.known 0)))) .nil) []) C49_5
def F49 : AFunc := { ntmps := 8, results := [.tmp 2], body := C49_6 }
theorem ok49 : okFn Try.prog 49 F49 = true := by kernel_rfl
/-! sallyport/packet.New -/
def C63_1 : AC := .ret
def C63_2 : AC := .seq (.reg (.op (some 35) (.mov (.t 8)) (.op (some 6) (.mov (.t 35)) (.op (some 7) (.mov (.c (.int .i64 0))) .nil))) []) C63_1
def C63_3 : AC := .seq (.reg (.op (some 30) (.mov (.t 8)) (.op (some 31) (.mov (.t 0)) (.op (some 32) (.mov (.t 1)) (.op (some 33) (.mov (.t 2)) (.op (some 34) (.call 87 [(.t 30), (.t 31), (.t 32), (.c (.int .i64 0)), (.c (.int .i64 0)), (.t 33)] (.tup [])) .nil))))) []) C63_2
def C63_4 : AC := .seq (.reg (.op (some 28) (.build [.bool false, .sl none 0 (.known 0), .int .i64 0, .int .i64 0, .int .i64 0] [(0, 1, (.c (.bool true)))]) (.op (some 29) (.box (.t 28)) (.op (some 8) (.mov (.t 29)) .nil))) []) C63_3
def C63_5 : AC := .kil [3, 4, 5, 6, 7, 8, 9, 10, 11, 12, 13, 14, 15, 16, 17, 18, 19, 20, 21, 22, 23, 24, 25, 26, 27, 28, 29, 30, 31, 32, 33, 34, 35] (.pt C63_4)
def C63_6 : AC := .ret
def C63_7 : AC := .ret
def C63_8 : AC := .cond (.t 13) (.seq (.reg (.op (some 6) (.mov (.c (.ptr none))) (.op (some 7) (.mov (.c (.int .i64 2))) .nil)) []) C63_7) .skip
def C63_9 : AC := .cond (.t 9) (.seq (.reg (.op (some 6) (.mov (.c (.ptr none))) (.op (some 7) (.mov (.c (.int .i64 5))) .nil)) []) C63_6) (.seq (.reg (.op (some 14) (.mov (.t 1)) (.op (some 15) (.bin .lss (.t 14) (.c (.int .i64 0))) (.op (some 16) (.mov (.t 15)) (.grp 16 false (.op (some 17) (.mov (.t 1)) (.op (some 18) (.bin .gtr (.t 17) (.c (.int .i64 256))) .nil)) (.op (some 19) (.pick (.t 16) (.c (.bool true)) (.t 18)) (.op (some 20) (.mov (.t 19)) (.grp 20 false (.op (some 21) (.mov (.t 2)) (.op (some 22) (.bin .lss (.t 21) (.c (.int .i64 0))) .nil)) (.op (some 23) (.pick (.t 20) (.c (.bool true)) (.t 22)) (.op (some 24) (.mov (.t 23)) (.grp 24 false (.op (some 25) (.mov (.t 2)) (.op (some 26) (.bin .gtr (.t 25) (.c (.int .i64 256))) .nil)) (.op (some 27) (.pick (.t 24) (.c (.bool true)) (.t 26)) (.op (some 13) (.mov (.t 27)) .nil)))))))))))) []) C63_8)
def C63_10 : AC := .seq (.block 0 (.seq (.reg (.op (some 10) (.mov (.t 0)) (.op (some 11) (.len (.t 10)) (.op (some 12) (.bin .gtr (.t 11) (.c (.int .i64 2048))) (.op (some 9) (.mov (.t 12)) .nil)))) []) C63_9)) C63_5
def C63_11 : AC := .seq (.reg (.op (some 6) (.mov (.c (.ptr none))) (.op (some 7) (.mov (.c (.int .i64 0))) .nil)) []) C63_10
def F63 : AFunc := { ntmps := 36, results := [.tmp 6, .tmp 7], body := C63_11 }
theorem ok63 : okFn Try.prog 63 F63 = true := by kernel_rfl
/-! (*sallyport/share.Share).Load -/
def C64_1 : AC := .ret
def C64_2 : AC := .seq (.reg (.op (some 14) (.mov (.t 0)) (.op (some 15) (.nilCk (.t 14)) (.op (some 16) (.fldA 1 (.t 15)) (.op (some 17) (.load1 .ptr (.t 16)) (.op (some 18) (.nilCk (.t 17)) (.op (some 19) (.fldA 0 (.t 18)) (.op (some 20) (.load1 .ptr (.t 19)) (.op (some 21) (.mov (.t 1)) (.op (some 22) (.mov (.t 2)) (.op (some 23) (.call 88 [(.t 20), (.t 21), (.t 22)] (.tup [.one (.int .u64), .one (.int .i64)])) (.op (some 24) (.ext (.t 23) 0) (.op (some 25) (.ext (.t 23) 1) (.op (some 6) (.mov (.t 24)) (.op (some 7) (.mov (.t 25)) .nil)))))))))))))) []) C64_1
def C64_3 : AC := .ret
def C64_4 : AC := .cond (.t 12) (.seq (.reg (.op (some 13) (.mov (.t 8)) (.op (some 6) (.mov (.c (.int .u64 0))) (.op (some 7) (.mov (.t 13)) .nil))) []) C64_3) .skip
def C64_5 : AC := .seq (.reg (.op (some 11) (.mov (.t 8)) (.op (some 12) (.bin .neq (.t 11) (.c (.int .i64 0))) .nil)) []) C64_4
def C64_6 : AC := .seq (.seq (.reg (.op (some 9) (.mov (.t 0)) (.op (some 10) (.call 44 [(.t 9)] (.r (.one (.int .i64)))) (.op (some 8) (.mov (.t 10)) .nil))) []) C64_5) C64_2
def C64_7 : AC := .seq (.reg (.op (some 6) (.mov (.c (.int .u64 0))) (.op (some 7) (.mov (.c (.int .i64 0))) .nil)) []) C64_6
def F64 : AFunc := { ntmps := 26, results := [.tmp 6, .tmp 7], body := C64_7 }
theorem ok64 : okFn Try.prog 64 F64 = true := by kernel_rfl
/-! (*sallyport/packet.Packet).Data -/
def C65_1 : AC := .ret
def C65_2 : AC := .seq (.drw (.op (some 5) (.mov (.t 0)) (.op (some 6) (.nilCk (.t 5)) (.op (some 7) (.fldA 1 (.t 6)) (.op (some 8) (.load1 .sl (.t 7)) (.op (some 9) (.mov (.t 0)) (.op (some 10) (.nilCk (.t 9)) (.op (some 11) (.fldA 2 (.t 10)) (.op (some 12) (.load1 (.int .i64) (.t 11)) (.op (some 13) (.mov (.t 0)) (.op (some 14) (.nilCk (.t 13)) (.op (some 15) (.fldA 3 (.t 14)) (.op (some 16) (.load1 (.int .i64) (.t 15)) (.op (some 17) (.mov (.t 0)) (.op (some 18) (.nilCk (.t 17)) (.op (some 19) (.fldA 3 (.t 18)) (.op (some 20) (.load1 (.int .i64) (.t 19)) (.op (some 21) (.slc 1 (.t 8) (some (.t 12)) (some (.t 16)) (some (.t 20))) (.op (some 2) (.mov (.t 21)) .nil)))))))))))))))))) [] []) C65_1
def C65_3 : AC := .ret
def C65_4 : AC := .cond (.t 4) (.seq (.reg (.op (some 2) (.mov (.c (.sl none 0 (.known 0)))) .nil) []) C65_3) .skip
def C65_5 : AC := .seq (.seq (.reg (.op (some 3) (.mov (.t 0)) (.op (some 4) (.call 89 [(.t 3)] (.r (.one .bool))) .nil)) []) C65_4) C65_2
def C65_6 : AC := .seq (.reg (.op (some 2) (.mov (.c (.sl none 0 (.known 0)))) .nil) []) C65_5
def F65 : AFunc := { ntmps := 22, results := [.tmp 2], body := C65_6 }
theorem ok65 : okFn Try.prog 65 F65 = true := by kernel_rfl
/-! (*sallyport/helper.Hands).within -/
def C66_1 : AC := .ret
def C66_2 : AC := .seq (.reg (.op (some 14) (.mov (.t 1)) (.op (some 15) (.mov (.t 7)) (.op (some 16) (.bin .leq (.t 14) (.t 15)) (.op (some 17) (.mov (.t 16)) (.grp 17 true (.op (some 18) (.mov (.t 2)) (.op (some 19) (.mov (.t 7)) (.op (some 20) (.mov (.t 1)) (.op (some 21) (.bin .sub (.t 19) (.t 20)) (.op (some 22) (.bin .leq (.t 18) (.t 21)) .nil))))) (.op (some 23) (.pick (.t 17) (.t 22) (.c (.bool false))) (.op (some 6) (.mov (.t 23)) .nil))))))) []) C66_1
def C66_3 : AC := .seq (.reg (.op (some 8) (.mov (.t 0)) (.op (some 9) (.nilCk (.t 8)) (.op (some 10) (.fldA 0 (.t 9)) (.op (some 11) (.load1 .ptr (.t 10)) (.op (some 12) (.call 90 [(.t 11)] (.r (.one (.int .i64)))) (.op (some 13) (.convI .u64 (.t 12)) (.op (some 7) (.mov (.t 13)) .nil))))))) []) C66_2
def C66_4 : AC := .seq (.reg (.op (some 6) (.mov (.c (.bool false))) .nil) []) C66_3
def F66 : AFunc := { ntmps := 24, results := [.tmp 6], body := C66_4 }
theorem ok66 : okFn Try.prog 66 F66 = true := by kernel_rfl
/-! sallyport/helper.done -/
def C67_1 : AC := .ret
def C67_2 : AC := .seq (.reg (.op (some 2) (.mov (.c (.int .u64 0))) .nil) []) C67_1
def C67_3 : AC := .ret
def C67_4 : AC := .cond (.t 4) (.seq (.reg (.op (some 2) (.mov (.c (.int .u64 1))) .nil) []) C67_3) .skip
def C67_5 : AC := .seq (.seq (.reg (.op (some 3) (.mov (.t 0)) (.op (some 4) (.bin .eql (.t 3) (.c (.int .i64 0))) .nil)) []) C67_4) C67_2
def C67_6 : AC := .seq (.reg (.op (some 2) (.mov (.c (.int .u64 0))) .nil) []) C67_5
def F67 : AFunc := { ntmps := 5, results := [.tmp 2], body := C67_6 }
theorem ok67 : okFn Try.prog 67 F67 = true := by kernel_rfl
/-! (*sallyport/share.Share).Store -/
def C68_1 : AC := .ret
def C68_2 : AC := .seq (.reg (.op (some 31) (.mov (.t 11)) (.op (some 32) (.mov (.t 1)) (.op (some 33) (.mov (.t 2)) (.op (some 34) (.mov (.t 3)) (.op (some 35) (.call 92 [(.t 31), (.t 32), (.t 33), (.t 34)] (.r (.one (.int .i64)))) (.op (some 8) (.mov (.t 35)) .nil)))))) []) C68_1
def C68_3 : AC := .ret
def C68_4 : AC := .cond (.t 29) (.seq (.reg (.op (some 30) (.mov (.t 12)) (.op (some 8) (.mov (.t 30)) .nil)) []) C68_3) .skip
def C68_5 : AC := .seq (.seq (.reg (.op (some 28) (.mov (.t 12)) (.op (some 29) (.bin .neq (.t 28) (.c (.int .i64 0))) .nil)) []) C68_4) C68_2
def C68_6 : AC := .seq (.reg (.op (some 24) (.mov (.t 0)) (.op (some 25) (.call 91 [(.t 24)] (.tup [.one .ptr, .one (.int .i64)])) (.op (some 23) (.mov (.t 25)) (.op (some 26) (.ext (.t 23) 0) (.op (some 27) (.ext (.t 23) 1) (.op (some 11) (.mov (.t 26)) (.op (some 12) (.mov (.t 27)) .nil))))))) []) C68_5
def C68_7 : AC := .ret
def C68_8 : AC := .cond (.t 21) (.seq (.reg (.op (some 22) (.mov (.t 10)) (.op (some 8) (.mov (.t 22)) .nil)) []) C68_7) .skip
def C68_9 : AC := .seq (.reg (.op (some 20) (.mov (.t 10)) (.op (some 21) (.bin .neq (.t 20) (.c (.int .i64 0))) .nil)) []) C68_8
def C68_10 : AC := .seq (.seq (.reg (.op (some 14) (.mov (.t 0)) (.op (some 15) (.mov (.t 1)) (.op (some 16) (.mov (.t 2)) (.op (some 17) (.call 64 [(.t 14), (.t 15), (.t 16)] (.tup [.one (.int .u64), .one (.int .i64)])) (.op (some 13) (.mov (.t 17)) (.op (some 18) (.ext (.t 13) 0) (.op (some 19) (.ext (.t 13) 1) (.op (some 9) (.mov (.t 18)) (.op (some 10) (.mov (.t 19)) .nil))))))))) []) C68_9) C68_6
def C68_11 : AC := .seq (.reg (.op (some 8) (.mov (.c (.int .i64 0))) .nil) []) C68_10
def F68 : AFunc := { ntmps := 36, results := [.tmp 8], body := C68_11 }
theorem ok68 : okFn Try.prog 68 F68 = true := by kernel_rfl
/-! (*sallyport/helper.Hands).move -/
def C69_1 : AC := .ret
def C69_2 : AC := .seq (.reg (.op (some 40) (.mov (.t 8)) (.op (some 41) (.mov (.t 1)) (.op (some 42) (.call 94 [(.t 40), (.t 41)] (.r (.one (.int .i64)))) (.op (some 43) (.callP 67 [(.t 42)] (.r (.one (.int .u64)))) (.op (some 6) (.mov (.t 43)) .nil))))) []) C69_1
def C69_3 : AC := .ret
def C69_4 : AC := .cond (.t 35) (.seq (.reg (.op (some 36) (.mov (.t 8)) (.op (some 37) (.mov (.t 1)) (.op (some 38) (.call 93 [(.t 36), (.t 37)] (.r (.one (.int .i64)))) (.op (some 39) (.callP 67 [(.t 38)] (.r (.one (.int .u64)))) (.op (some 6) (.mov (.t 39)) .nil))))) []) C69_3) .skip
def C69_5 : AC := .seq (.seq (.reg (.op (some 35) (.mov (.t 2)) .nil) []) C69_4) C69_2
def C69_6 : AC := .ret
def C69_7 : AC := .cond (.t 34) (.seq (.reg (.op (some 6) (.mov (.c (.int .u64 0))) .nil) []) C69_6) .skip
def C69_8 : AC := .seq (.seq (.reg (.op (some 33) (.mov (.t 9)) (.op (some 34) (.bin .neq (.t 33) (.c (.int .i64 0))) .nil)) []) C69_7) C69_5
def C69_9 : AC := .seq (.reg (.op (some 26) (.mov (.t 0)) (.op (some 27) (.nilCk (.t 26)) (.op (some 28) (.fldA 0 (.t 27)) (.op (some 29) (.load1 .ptr (.t 28)) (.op (some 30) (.call 91 [(.t 29)] (.tup [.one .ptr, .one (.int .i64)])) (.op (some 25) (.mov (.t 30)) (.op (some 31) (.ext (.t 25) 0) (.op (some 32) (.ext (.t 25) 1) (.op (some 8) (.mov (.t 31)) (.op (some 9) (.mov (.t 32)) .nil)))))))))) []) C69_8
def C69_10 : AC := .kil [3, 4, 5, 6, 7, 8, 9, 10, 11, 12, 13, 14, 15, 16, 17, 18, 19, 20, 21, 22, 23, 24, 25, 26, 27, 28, 29, 30, 31, 32, 33, 34, 35, 36, 37, 38, 39, 40, 41, 42, 43] (.pt C69_9)
def C69_11 : AC := .ret
def C69_12 : AC := .cond (.t 24) (.seq (.reg (.op (some 6) (.mov (.c (.int .u64 0))) .nil) []) C69_11) .skip
def C69_13 : AC := .seq (.seq (.reg (.op (some 15) (.mov (.t 1)) (.op (some 16) (.mov (.t 7)) (.op (some 17) (.neg (.t 16)) (.op (some 18) (.bin .lss (.t 15) (.t 17)) (.op (some 19) (.mov (.t 18)) (.grp 19 false (.op (some 20) (.mov (.t 1)) (.op (some 21) (.mov (.t 7)) (.op (some 22) (.bin .sub (.c (.int .i64 2048)) (.t 21)) (.op (some 23) (.bin .gtr (.t 20) (.t 22)) .nil)))) (.op (some 24) (.pick (.t 19) (.c (.bool true)) (.t 23)) .nil))))))) []) C69_12) C69_10
def C69_14 : AC := .seq (.reg (.op (some 10) (.mov (.t 0)) (.op (some 11) (.nilCk (.t 10)) (.op (some 12) (.fldA 0 (.t 11)) (.op (some 13) (.load1 .ptr (.t 12)) (.op (some 14) (.call 90 [(.t 13)] (.r (.one (.int .i64)))) (.op (some 7) (.mov (.t 14)) .nil)))))) []) C69_13
def C69_15 : AC := .seq (.reg (.op (some 6) (.mov (.c (.int .u64 0))) .nil) []) C69_14
def F69 : AFunc := { ntmps := 44, results := [.tmp 6], body := C69_15 }
theorem ok69 : okFn Try.prog 69 F69 = true := by kernel_rfl
/-! (*sallyport/packet.Packet).lay -/
def C87_1 : AC := .reg (.op (some 31) (.mov (.t 0)) (.op (some 32) (.mov (.t 0)) (.op (some 33) (.mov (.t 0)) (.op (some 34) (.mov (.t 12)) (.op (some 35) (.mov (.t 2)) (.op (some 36) (.mov (.t 12)) (.op (some 37) (.len (.t 36)) (.op (some 38) (.mov (.t 5)) (.op (some 39) (.bin .sub (.t 37) (.t 38)) (.op (some 40) (.nilCk (.t 31)) (.op (some 41) (.fldA 1 (.t 40)) (.op none (.store 1 (.t 41) (.t 34)) (.op (some 42) (.nilCk (.t 32)) (.op (some 43) (.fldA 2 (.t 42)) (.op none (.store 1 (.t 43) (.t 35)) (.op (some 44) (.nilCk (.t 33)) (.op (some 45) (.fldA 3 (.t 44)) (.op none (.store 1 (.t 45) (.t 39)) .nil)))))))))))))))))) []
def C87_2 : AC := .seq (.reg (.op (some 24) (.mov (.t 12)) (.op (some 25) (.mov (.t 2)) (.op (some 26) (.mov (.t 3)) (.op (some 27) (.bin .add (.t 25) (.t 26)) (.op (some 28) (.slc 1 (.t 24) (some (.t 27)) none none) (.op (some 29) (.mov (.t 1)) (.op (some 30) (.copy 1 (.t 28) (.t 29)) .nil))))))) []) C87_1
def C87_3 : AC := .seq (.reg (.op (some 13) (.mov (.t 2)) (.op (some 14) (.mov (.t 3)) (.op (some 15) (.bin .add (.t 13) (.t 14)) (.op (some 16) (.mov (.t 1)) (.op (some 17) (.len (.t 16)) (.op (some 18) (.bin .add (.t 15) (.t 17)) (.op (some 19) (.mov (.t 4)) (.op (some 20) (.bin .add (.t 18) (.t 19)) (.op (some 21) (.mov (.t 5)) (.op (some 22) (.bin .add (.t 20) (.t 21)) (.op (some 23) (.mkSl [.int .u8 0] 1 (.t 22) (.t 22)) (.op (some 12) (.mov (.t 23)) .nil)))))))))))) []) C87_2
def F87 : AFunc := { ntmps := 46, results := [], body := C87_3 }
theorem ok87 : okFn Try.prog 87 F87 = true := by kernel_rfl
/-! (*sallyport/packet.Packet).Load -/
def C88_1 : AC := .ret
def C88_2 : AC := .seq (.reg (.op (some 37) (.mov (.t 9)) (.op (some 6) (.mov (.t 37)) (.op (some 7) (.mov (.c (.int .i64 0))) .nil))) []) C88_1
def C88_3 : AC := .reg (.op (some 36) (.bin .add (.t 27) (.c (.int .i64 1))) (.op (some 27) (.mov (.t 36)) .nil)) []
def C88_4 : AC := .reg (.op (some 31) (.mov (.t 9)) (.op (some 32) (.shift .shl (.t 31) (.c (.int .u64 8))) (.op (some 33) (.mov (.t 11)) (.op (some 34) (.convI .u64 (.t 33)) (.op (some 35) (.bin .or (.t 32) (.t 34)) (.op (some 9) (.mov (.t 35)) .nil)))))) []
def C88_5 : AC := .seq (.block 1 (.seq (.reg (.op (some 29) (.ixS 1 (.t 25) (.t 27)) (.op (some 30) (.load1 (.int .u8) (.t 29)) (.op (some 11) (.mov (.t 30)) .nil))) []) C88_4)) C88_3
def C88_6 : AC := .seq (.cond (.t 28) .skip (.exit 0)) C88_5
def C88_7 : AC := .seq (.reg (.op (some 28) (.bin .lss (.t 27) (.t 26)) .nil) []) C88_6
def C88_8 : AC := .kil [0, 1, 2, 3, 4, 5, 6, 7, 8, 10, 11, 12, 13, 14, 15, 16, 17, 18, 19, 20, 21, 22, 23, 24, 28, 29, 30, 31, 32, 33, 34, 35, 36, 37] (.pt C88_7)
def C88_9 : AC := .block 0 (.loop C88_8)
def C88_10 : AC := .seq (.seq (.reg (.op (some 19) (.mov (.t 0)) (.op (some 20) (.call 65 [(.t 19)] (.r (.one .sl))) (.op (some 21) (.mov (.t 1)) (.op (some 22) (.mov (.t 1)) (.op (some 23) (.mov (.t 2)) (.op (some 24) (.bin .add (.t 22) (.t 23)) (.op (some 25) (.slc 1 (.t 20) (some (.t 21)) (some (.t 24)) none) (.op (some 26) (.len (.t 25)) (.op (some 27) (.mov (.c (.int .i64 0))) .nil))))))))) []) C88_9) C88_2
def C88_11 : AC := .seq (.reg (.op (some 9) (.mov (.c (.int .u64 0))) .nil) []) C88_10
def C88_12 : AC := .ret
def C88_13 : AC := .cond (.t 17) (.seq (.reg (.op (some 18) (.mov (.t 8)) (.op (some 6) (.mov (.c (.int .u64 0))) (.op (some 7) (.mov (.t 18)) .nil))) []) C88_12) .skip
def C88_14 : AC := .seq (.reg (.op (some 16) (.mov (.t 8)) (.op (some 17) (.bin .neq (.t 16) (.c (.int .i64 0))) .nil)) []) C88_13
def C88_15 : AC := .seq (.seq (.reg (.op (some 12) (.mov (.t 0)) (.op (some 13) (.mov (.t 1)) (.op (some 14) (.mov (.t 2)) (.op (some 15) (.call 103 [(.t 12), (.t 13), (.t 14)] (.r (.one (.int .i64)))) (.op (some 8) (.mov (.t 15)) .nil))))) []) C88_14) C88_11
def C88_16 : AC := .seq (.reg (.op (some 6) (.mov (.c (.int .u64 0))) (.op (some 7) (.mov (.c (.int .i64 0))) .nil)) []) C88_15
def F88 : AFunc := { ntmps := 38, results := [.tmp 6, .tmp 7], body := C88_16 }
theorem ok88 : okFn Try.prog 88 F88 = true := by kernel_rfl
/-! (*sallyport/packet.Packet).none -/
def C89_1 : AC := .ret
def C89_2 : AC := .seq (.reg (.op (some 3) (.mov (.t 0)) (.op (some 4) (.eq false .ptr (.t 3) (.c (.ptr none))) (.op (some 5) (.mov (.t 4)) (.grp 5 false (.op (some 6) (.mov (.t 0)) (.op (some 7) (.nilCk (.t 6)) (.op (some 8) (.fldA 0 (.t 7)) (.op (some 9) (.load1 .bool (.t 8)) (.op (some 10) (.not (.t 9)) .nil))))) (.op (some 11) (.pick (.t 5) (.c (.bool true)) (.t 10)) (.op (some 2) (.mov (.t 11)) .nil)))))) []) C89_1
def C89_3 : AC := .seq (.reg (.op (some 2) (.mov (.c (.bool false))) .nil) []) C89_2
def F89 : AFunc := { ntmps := 12, results := [.tmp 2], body := C89_3 }
theorem ok89 : okFn Try.prog 89 F89 = true := by kernel_rfl
/-! (*sallyport/share.Share).Len -/
def C90_1 : AC := .ret
def C90_2 : AC := .seq (.reg (.op (some 6) (.mov (.t 0)) (.op (some 7) (.nilCk (.t 6)) (.op (some 8) (.fldA 1 (.t 7)) (.op (some 9) (.load1 .ptr (.t 8)) (.op (some 10) (.nilCk (.t 9)) (.op (some 11) (.fldA 0 (.t 10)) (.op (some 12) (.load1 .ptr (.t 11)) (.op (some 13) (.call 104 [(.t 12)] (.r (.one (.int .i64)))) (.op (some 2) (.mov (.t 13)) .nil))))))))) []) C90_1
def C90_3 : AC := .ret
def C90_4 : AC := .cond (.t 5) (.seq (.reg (.op (some 2) (.mov (.c (.int .i64 0))) .nil) []) C90_3) .skip
def C90_5 : AC := .seq (.seq (.reg (.op (some 3) (.mov (.t 0)) (.op (some 4) (.call 44 [(.t 3)] (.r (.one (.int .i64)))) (.op (some 5) (.bin .neq (.t 4) (.c (.int .i64 0))) .nil))) []) C90_4) C90_2
def C90_6 : AC := .seq (.reg (.op (some 2) (.mov (.c (.int .i64 0))) .nil) []) C90_5
def F90 : AFunc := { ntmps := 14, results := [.tmp 2], body := C90_6 }
theorem ok90 : okFn Try.prog 90 F90 = true := by kernel_rfl
/-! (*sallyport/share.Share).Own -/
def C91_1 : AC := .ret
def C91_2 : AC := .seq (.reg (.op (some 49) (.mov (.t 0)) (.op (some 50) (.nilCk (.t 49)) (.op (some 51) (.fldA 1 (.t 50)) (.op (some 52) (.load1 .ptr (.t 51)) (.op (some 53) (.nilCk (.t 52)) (.op (some 54) (.fldA 0 (.t 53)) (.op (some 55) (.load1 .ptr (.t 54)) (.op (some 2) (.mov (.t 55)) (.op (some 3) (.mov (.c (.int .i64 0))) .nil))))))))) []) C91_1
def C91_3 : AC := .kil [1, 2, 3, 4, 5, 6, 7, 8, 9, 10, 11, 12, 13, 14, 15, 16, 17, 18, 19, 20, 21, 22, 23, 24, 25, 26, 27, 28, 29, 30, 31, 32, 33, 34, 35, 36, 37, 38, 39, 40, 41, 42, 43, 44, 45, 46, 47, 48, 49, 50, 51, 52, 53, 54, 55] (.pt C91_2)
def C91_4 : AC := .reg (.op (some 45) (.mov (.t 0)) (.op (some 46) (.mov (.t 5)) (.op (some 47) (.nilCk (.t 45)) (.op (some 48) (.fldA 1 (.t 47)) (.op none (.store 1 (.t 48) (.t 46)) .nil))))) []
def C91_5 : AC := .seq (.reg (.op (some 35) (.mov (.t 0)) (.op (some 36) (.nilCk (.t 35)) (.op (some 37) (.fldA 1 (.t 36)) (.op (some 38) (.load1 .ptr (.t 37)) (.op (some 39) (.nilCk (.t 38)) (.op (some 40) (.fldA 1 (.t 39)) (.op (some 41) (.load1 (.int .i64) (.t 40)) (.op (some 42) (.bin .sub (.t 41) (.c (.int .i64 1))) (.op (some 43) (.nilCk (.t 38)) (.op (some 44) (.fldA 1 (.t 43)) (.op none (.store 1 (.t 44) (.t 42)) .nil))))))))))) []) C91_4
def C91_6 : AC := .ret
def C91_7 : AC := .cond (.t 33) (.seq (.reg (.op (some 34) (.mov (.t 6)) (.op (some 2) (.mov (.c (.ptr none))) (.op (some 3) (.mov (.t 34)) .nil))) []) C91_6) .skip
def C91_8 : AC := .seq (.seq (.reg (.op (some 32) (.mov (.t 6)) (.op (some 33) (.bin .neq (.t 32) (.c (.int .i64 0))) .nil)) []) C91_7) C91_5
def C91_9 : AC := .seq (.reg (.op (some 21) (.mov (.t 0)) (.op (some 22) (.nilCk (.t 21)) (.op (some 23) (.fldA 1 (.t 22)) (.op (some 24) (.load1 .ptr (.t 23)) (.op (some 25) (.nilCk (.t 24)) (.op (some 26) (.fldA 0 (.t 25)) (.op (some 27) (.load1 .ptr (.t 26)) (.op (some 28) (.call 65 [(.t 27)] (.r (.one .sl))) (.op (some 29) (.call 39 [(.t 28)] (.tup [.one .ptr, .one (.int .i64)])) (.op (some 20) (.mov (.t 29)) (.op (some 30) (.ext (.t 20) 0) (.op (some 31) (.ext (.t 20) 1) (.op (some 5) (.mov (.t 30)) (.op (some 6) (.mov (.t 31)) .nil)))))))))))))) []) C91_8
def C91_10 : AC := .cond (.t 19) (.kil [1, 2, 3, 4, 5, 6, 7, 8, 9, 10, 11, 12, 13, 14, 15, 16, 17, 18, 19, 20, 21, 22, 23, 24, 25, 26, 27, 28, 29, 30, 31, 32, 33, 34, 35, 36, 37, 38, 39, 40, 41, 42, 43, 44, 45, 46, 47, 48, 49, 50, 51, 52, 53, 54, 55] (.pt C91_9)) .skip
def C91_11 : AC := .seq (.seq (.reg (.op (some 12) (.mov (.t 0)) (.op (some 13) (.nilCk (.t 12)) (.op (some 14) (.fldA 1 (.t 13)) (.op (some 15) (.load1 .ptr (.t 14)) (.op (some 16) (.nilCk (.t 15)) (.op (some 17) (.fldA 1 (.t 16)) (.op (some 18) (.load1 (.int .i64) (.t 17)) (.op (some 19) (.bin .gtr (.t 18) (.c (.int .i64 1))) .nil)))))))) []) C91_10) C91_3
def C91_12 : AC := .ret
def C91_13 : AC := .cond (.t 10) (.seq (.reg (.op (some 11) (.mov (.t 4)) (.op (some 2) (.mov (.c (.ptr none))) (.op (some 3) (.mov (.t 11)) .nil))) []) C91_12) .skip
def C91_14 : AC := .seq (.reg (.op (some 9) (.mov (.t 4)) (.op (some 10) (.bin .neq (.t 9) (.c (.int .i64 0))) .nil)) []) C91_13
def C91_15 : AC := .seq (.seq (.reg (.op (some 7) (.mov (.t 0)) (.op (some 8) (.call 44 [(.t 7)] (.r (.one (.int .i64)))) (.op (some 4) (.mov (.t 8)) .nil))) []) C91_14) C91_11
def C91_16 : AC := .seq (.reg (.op (some 2) (.mov (.c (.ptr none))) (.op (some 3) (.mov (.c (.int .i64 0))) .nil)) []) C91_15
def F91 : AFunc := { ntmps := 56, results := [.tmp 2, .tmp 3], body := C91_16 }
theorem ok91 : okFn Try.prog 91 F91 = true := by kernel_rfl
/-! (*sallyport/packet.Packet).Store -/
def C92_1 : AC := .ret
def C92_2 : AC := .seq (.reg (.op (some 8) (.mov (.c (.int .i64 0))) .nil) []) C92_1
def C92_3 : AC := .reg (.op (some 42) (.bin .add (.t 28) (.c (.int .i64 1))) (.op (some 28) (.mov (.t 42)) .nil)) []
def C92_4 : AC := .reg (.op (some 31) (.mov (.t 10)) (.op (some 32) (.mov (.t 11)) (.op (some 33) (.mov (.t 3)) (.op (some 34) (.mov (.t 2)) (.op (some 35) (.bin .sub (.t 34) (.c (.int .i64 1))) (.op (some 36) (.mov (.t 11)) (.op (some 37) (.bin .sub (.t 35) (.t 36)) (.op (some 38) (.bin .mul (.c (.int .i64 8)) (.t 37)) (.op (some 39) (.shift .shr (.t 33) (.t 38)) (.op (some 40) (.convI .u8 (.t 39)) (.op (some 41) (.ixS 1 (.t 31) (.t 32)) (.op none (.store 1 (.t 41) (.t 40)) .nil)))))))))))) []
def C92_5 : AC := .seq (.block 1 (.seq (.reg (.op (some 30) (.mov (.t 28)) (.op (some 11) (.mov (.t 30)) .nil)) []) C92_4)) C92_3
def C92_6 : AC := .seq (.cond (.t 29) .skip (.exit 0)) C92_5
def C92_7 : AC := .seq (.reg (.op (some 29) (.bin .lss (.t 28) (.t 27)) .nil) []) C92_6
def C92_8 : AC := .kil [0, 1, 4, 5, 6, 7, 8, 9, 11, 12, 13, 14, 15, 16, 17, 18, 19, 20, 21, 22, 23, 24, 25, 26, 29, 30, 31, 32, 33, 34, 35, 36, 37, 38, 39, 40, 41, 42] (.pt C92_7)
def C92_9 : AC := .block 0 (.loop C92_8)
def C92_10 : AC := .seq (.seq (.reg (.op (some 26) (.mov (.t 10)) (.op (some 27) (.len (.t 26)) (.op (some 28) (.mov (.c (.int .i64 0))) .nil))) []) C92_9) C92_2
def C92_11 : AC := .seq (.reg (.op (some 19) (.mov (.t 0)) (.op (some 20) (.call 65 [(.t 19)] (.r (.one .sl))) (.op (some 21) (.mov (.t 1)) (.op (some 22) (.mov (.t 1)) (.op (some 23) (.mov (.t 2)) (.op (some 24) (.bin .add (.t 22) (.t 23)) (.op (some 25) (.slc 1 (.t 20) (some (.t 21)) (some (.t 24)) none) (.op (some 10) (.mov (.t 25)) .nil)))))))) []) C92_10
def C92_12 : AC := .ret
def C92_13 : AC := .cond (.t 17) (.seq (.reg (.op (some 18) (.mov (.t 9)) (.op (some 8) (.mov (.t 18)) .nil)) []) C92_12) .skip
def C92_14 : AC := .seq (.reg (.op (some 16) (.mov (.t 9)) (.op (some 17) (.bin .neq (.t 16) (.c (.int .i64 0))) .nil)) []) C92_13
def C92_15 : AC := .seq (.seq (.reg (.op (some 12) (.mov (.t 0)) (.op (some 13) (.mov (.t 1)) (.op (some 14) (.mov (.t 2)) (.op (some 15) (.call 103 [(.t 12), (.t 13), (.t 14)] (.r (.one (.int .i64)))) (.op (some 9) (.mov (.t 15)) .nil))))) []) C92_14) C92_11
def C92_16 : AC := .seq (.reg (.op (some 8) (.mov (.c (.int .i64 0))) .nil) []) C92_15
def F92 : AFunc := { ntmps := 43, results := [.tmp 8], body := C92_16 }
theorem ok92 : okFn Try.prog 92 F92 = true := by kernel_rfl
/-! (*sallyport/packet.Packet).Head -/
def C93_1 : AC := .ret
def C93_2 : AC := .seq (.reg (.op (some 4) (.mov (.c (.int .i64 0))) .nil) []) C93_1
def C93_3 : AC := .seq (.reg (.op (some 47) (.mov (.t 0)) (.op (some 48) (.nilCk (.t 47)) (.op (some 49) (.fldA 4 (.t 48)) (.op (some 50) (.load1 (.int .i64) (.t 49)) (.op (some 51) (.bin .add (.t 50) (.c (.int .i64 1))) (.op (some 52) (.nilCk (.t 47)) (.op (some 53) (.fldA 4 (.t 52)) (.op none (.store 1 (.t 53) (.t 51)) .nil)))))))) []) C93_2
def C93_4 : AC := .kil [1, 2, 3, 4, 5, 6, 7, 8, 9, 10, 11, 12, 13, 14, 15, 16, 17, 18, 19, 20, 21, 22, 23, 24, 25, 26, 27, 28, 29, 30, 31, 32, 33, 34, 35, 36, 37, 38, 39, 40, 41, 42, 43, 44, 45, 46, 47, 48, 49, 50, 51, 52, 53] (.pt C93_3)
def C93_5 : AC := .drw (.op (some 31) (.mov (.t 0)) (.op (some 32) (.nilCk (.t 31)) (.op (some 33) (.fldA 1 (.t 32)) (.op (some 34) (.load1 .sl (.t 33)) (.op (some 35) (.mov (.t 0)) (.op (some 36) (.nilCk (.t 35)) (.op (some 37) (.fldA 2 (.t 36)) (.op (some 38) (.load1 (.int .i64) (.t 37)) (.op (some 39) (.mov (.t 0)) (.op (some 40) (.nilCk (.t 39)) (.op (some 41) (.fldA 2 (.t 40)) (.op (some 42) (.load1 (.int .i64) (.t 41)) (.op (some 43) (.mov (.t 1)) (.op (some 44) (.max [(.t 43), (.c (.int .i64 0))]) (.op (some 45) (.bin .add (.t 42) (.t 44)) (.op (some 46) (.slc 1 (.t 34) (some (.t 38)) (some (.t 45)) none) (.op none (.clear [.int .u8 0] (.t 46)) .nil))))))))))))))))) [] []
def C93_6 : AC := .seq (.reg (.op (some 23) (.mov (.t 0)) (.op (some 24) (.nilCk (.t 23)) (.op (some 25) (.fldA 2 (.t 24)) (.op (some 26) (.load1 (.int .i64) (.t 25)) (.op (some 27) (.mov (.t 1)) (.op (some 28) (.bin .sub (.t 26) (.t 27)) (.op (some 29) (.nilCk (.t 23)) (.op (some 30) (.fldA 2 (.t 29)) (.op none (.store 1 (.t 30) (.t 28)) .nil))))))))) []) C93_5
def C93_7 : AC := .cond (.t 17) (.reg (.op (some 18) (.mov (.t 0)) (.op (some 19) (.mov (.t 0)) (.op (some 20) (.call 65 [(.t 19)] (.r (.one .sl))) (.op (some 21) (.mov (.t 1)) (.op (some 22) (.call 87 [(.t 18), (.t 20), (.c (.int .i64 64)), (.t 21), (.c (.int .i64 0)), (.c (.int .i64 64))] (.tup [])) .nil))))) []) (.kil [2, 3, 4, 5, 6, 7, 8, 9, 10, 11, 12, 13, 14, 15, 16, 17, 18, 19, 20, 21, 22, 23, 24, 25, 26, 27, 28, 29, 30, 31, 32, 33, 34, 35, 36, 37, 38, 39, 40, 41, 42, 43, 44, 45, 46, 47, 48, 49, 50, 51, 52, 53] (.pt C93_6))
def C93_8 : AC := .seq (.seq (.reg (.op (some 12) (.mov (.t 1)) (.op (some 13) (.mov (.t 0)) (.op (some 14) (.nilCk (.t 13)) (.op (some 15) (.fldA 2 (.t 14)) (.op (some 16) (.load1 (.int .i64) (.t 15)) (.op (some 17) (.bin .gtr (.t 12) (.t 16)) .nil)))))) []) C93_7) C93_4
def C93_9 : AC := .ret
def C93_10 : AC := .cond (.t 10) (.seq (.reg (.op (some 11) (.mov (.t 5)) (.op (some 4) (.mov (.t 11)) .nil)) []) C93_9) .skip
def C93_11 : AC := .seq (.reg (.op (some 9) (.mov (.t 5)) (.op (some 10) (.bin .neq (.t 9) (.c (.int .i64 0))) .nil)) []) C93_10
def C93_12 : AC := .seq (.seq (.reg (.op (some 6) (.mov (.t 0)) (.op (some 7) (.mov (.t 1)) (.op (some 8) (.call 105 [(.t 6), (.t 7)] (.r (.one (.int .i64)))) (.op (some 5) (.mov (.t 8)) .nil)))) []) C93_11) C93_8
def C93_13 : AC := .seq (.reg (.op (some 4) (.mov (.c (.int .i64 0))) .nil) []) C93_12
def F93 : AFunc := { ntmps := 54, results := [.tmp 4], body := C93_13 }
theorem ok93 : okFn Try.prog 93 F93 = true := by kernel_rfl
/-! (*sallyport/packet.Packet).Tail -/
def C94_1 : AC := .ret
def C94_2 : AC := .seq (.reg (.op (some 4) (.mov (.c (.int .i64 0))) .nil) []) C94_1
def C94_3 : AC := .seq (.reg (.op (some 53) (.mov (.t 0)) (.op (some 54) (.nilCk (.t 53)) (.op (some 55) (.fldA 4 (.t 54)) (.op (some 56) (.load1 (.int .i64) (.t 55)) (.op (some 57) (.bin .add (.t 56) (.c (.int .i64 1))) (.op (some 58) (.nilCk (.t 53)) (.op (some 59) (.fldA 4 (.t 58)) (.op none (.store 1 (.t 59) (.t 57)) .nil)))))))) []) C94_2
def C94_4 : AC := .kil [1, 2, 3, 4, 5, 6, 7, 8, 9, 10, 11, 12, 13, 14, 15, 16, 17, 18, 19, 20, 21, 22, 23, 24, 25, 26, 27, 28, 29, 30, 31, 32, 33, 34, 35, 36, 37, 38, 39, 40, 41, 42, 43, 44, 45, 46, 47, 48, 49, 50, 51, 52, 53, 54, 55, 56, 57, 58, 59] (.pt C94_3)
def C94_5 : AC := .drw (.op (some 37) (.mov (.t 0)) (.op (some 38) (.nilCk (.t 37)) (.op (some 39) (.fldA 1 (.t 38)) (.op (some 40) (.load1 .sl (.t 39)) (.op (some 41) (.mov (.t 0)) (.op (some 42) (.nilCk (.t 41)) (.op (some 43) (.fldA 3 (.t 42)) (.op (some 44) (.load1 (.int .i64) (.t 43)) (.op (some 45) (.mov (.t 1)) (.op (some 46) (.max [(.t 45), (.c (.int .i64 0))]) (.op (some 47) (.bin .sub (.t 44) (.t 46)) (.op (some 48) (.mov (.t 0)) (.op (some 49) (.nilCk (.t 48)) (.op (some 50) (.fldA 3 (.t 49)) (.op (some 51) (.load1 (.int .i64) (.t 50)) (.op (some 52) (.slc 1 (.t 40) (some (.t 47)) (some (.t 51)) none) (.op none (.clear [.int .u8 0] (.t 52)) .nil))))))))))))))))) [] []
def C94_6 : AC := .seq (.reg (.op (some 29) (.mov (.t 0)) (.op (some 30) (.nilCk (.t 29)) (.op (some 31) (.fldA 3 (.t 30)) (.op (some 32) (.load1 (.int .i64) (.t 31)) (.op (some 33) (.mov (.t 1)) (.op (some 34) (.bin .add (.t 32) (.t 33)) (.op (some 35) (.nilCk (.t 29)) (.op (some 36) (.fldA 3 (.t 35)) (.op none (.store 1 (.t 36) (.t 34)) .nil))))))))) []) C94_5
def C94_7 : AC := .cond (.t 23) (.reg (.op (some 24) (.mov (.t 0)) (.op (some 25) (.mov (.t 0)) (.op (some 26) (.call 65 [(.t 25)] (.r (.one .sl))) (.op (some 27) (.mov (.t 1)) (.op (some 28) (.call 87 [(.t 24), (.t 26), (.c (.int .i64 64)), (.c (.int .i64 0)), (.t 27), (.c (.int .i64 64))] (.tup [])) .nil))))) []) (.kil [2, 3, 4, 5, 6, 7, 8, 9, 10, 11, 12, 13, 14, 15, 16, 17, 18, 19, 20, 21, 22, 23, 24, 25, 26, 27, 28, 29, 30, 31, 32, 33, 34, 35, 36, 37, 38, 39, 40, 41, 42, 43, 44, 45, 46, 47, 48, 49, 50, 51, 52, 53, 54, 55, 56, 57, 58, 59] (.pt C94_6))
def C94_8 : AC := .seq (.seq (.drw (.op (some 12) (.mov (.t 1)) (.op (some 13) (.mov (.t 0)) (.op (some 14) (.nilCk (.t 13)) (.op (some 15) (.fldA 1 (.t 14)) (.op (some 16) (.load1 .sl (.t 15)) (.op (some 17) (.len (.t 16)) (.op (some 18) (.mov (.t 0)) (.op (some 19) (.nilCk (.t 18)) (.op (some 20) (.fldA 3 (.t 19)) (.op (some 21) (.load1 (.int .i64) (.t 20)) (.op (some 22) (.bin .sub (.t 17) (.t 21)) (.op (some 23) (.bin .gtr (.t 12) (.t 22)) .nil)))))))))))) [] []) C94_7) C94_4
def C94_9 : AC := .ret
def C94_10 : AC := .cond (.t 10) (.seq (.reg (.op (some 11) (.mov (.t 5)) (.op (some 4) (.mov (.t 11)) .nil)) []) C94_9) .skip
def C94_11 : AC := .seq (.reg (.op (some 9) (.mov (.t 5)) (.op (some 10) (.bin .neq (.t 9) (.c (.int .i64 0))) .nil)) []) C94_10
def C94_12 : AC := .seq (.seq (.reg (.op (some 6) (.mov (.t 0)) (.op (some 7) (.mov (.t 1)) (.op (some 8) (.call 105 [(.t 6), (.t 7)] (.r (.one (.int .i64)))) (.op (some 5) (.mov (.t 8)) .nil)))) []) C94_11) C94_8
def C94_13 : AC := .seq (.reg (.op (some 4) (.mov (.c (.int .i64 0))) .nil) []) C94_12
def F94 : AFunc := { ntmps := 60, results := [.tmp 4], body := C94_13 }
theorem ok94 : okFn Try.prog 94 F94 = true := by kernel_rfl
/-! (*sallyport/packet.Packet).asked -/
def C103_1 : AC := .ret
def C103_2 : AC := .seq (.reg (.op (some 6) (.mov (.c (.int .i64 0))) .nil) []) C103_1
def C103_3 : AC := .ret
def C103_4 : AC := .ret
def C103_5 : AC := .ret
def C103_6 : AC := .cond (.t 17) (.seq (.reg (.op (some 6) (.mov (.c (.int .i64 20))) .nil) []) C103_5) .skip
def C103_7 : AC := .cond (.t 10) (.seq (.reg (.op (some 6) (.mov (.c (.int .i64 2))) .nil) []) C103_4) (.seq (.reg (.op (some 18) (.mov (.t 1)) (.op (some 19) (.bin .lss (.t 18) (.c (.int .i64 0))) (.op (some 20) (.mov (.t 19)) (.grp 20 false (.op (some 21) (.mov (.t 1)) (.op (some 22) (.mov (.t 0)) (.op (some 23) (.call 104 [(.t 22)] (.r (.one (.int .i64)))) (.op (some 24) (.mov (.t 2)) (.op (some 25) (.bin .sub (.t 23) (.t 24)) (.op (some 26) (.bin .gtr (.t 21) (.t 25)) .nil)))))) (.op (some 27) (.pick (.t 20) (.c (.bool true)) (.t 26)) (.op (some 17) (.mov (.t 27)) .nil)))))) []) C103_6)
def C103_8 : AC := .seq (.reg (.op (some 11) (.mov (.t 2)) (.op (some 12) (.bin .lss (.t 11) (.c (.int .i64 1))) (.op (some 13) (.mov (.t 12)) (.grp 13 false (.op (some 14) (.mov (.t 2)) (.op (some 15) (.bin .gtr (.t 14) (.c (.int .i64 8))) .nil)) (.op (some 16) (.pick (.t 13) (.c (.bool true)) (.t 15)) (.op (some 10) (.mov (.t 16)) .nil)))))) []) C103_7
def C103_9 : AC := .cond (.t 7) (.seq (.reg (.op (some 6) (.mov (.c (.int .i64 1))) .nil) []) C103_3) (.kil [3, 4, 5, 6, 7, 8, 9, 10, 11, 12, 13, 14, 15, 16, 17, 18, 19, 20, 21, 22, 23, 24, 25, 26, 27] (.pt C103_8))
def C103_10 : AC := .seq (.block 0 (.seq (.reg (.op (some 8) (.mov (.t 0)) (.op (some 9) (.call 89 [(.t 8)] (.r (.one .bool))) (.op (some 7) (.mov (.t 9)) .nil))) []) C103_9)) C103_2
def C103_11 : AC := .seq (.reg (.op (some 6) (.mov (.c (.int .i64 0))) .nil) []) C103_10
def F103 : AFunc := { ntmps := 28, results := [.tmp 6], body := C103_11 }
theorem ok103 : okFn Try.prog 103 F103 = true := by kernel_rfl
/-! (*sallyport/packet.Packet).Len -/
def C104_1 : AC := .ret
def C104_2 : AC := .seq (.drw (.op (some 5) (.mov (.t 0)) (.op (some 6) (.nilCk (.t 5)) (.op (some 7) (.fldA 3 (.t 6)) (.op (some 8) (.load1 (.int .i64) (.t 7)) (.op (some 9) (.mov (.t 0)) (.op (some 10) (.nilCk (.t 9)) (.op (some 11) (.fldA 2 (.t 10)) (.op (some 12) (.load1 (.int .i64) (.t 11)) (.op (some 13) (.bin .sub (.t 8) (.t 12)) (.op (some 2) (.mov (.t 13)) .nil)))))))))) [] []) C104_1
def C104_3 : AC := .ret
def C104_4 : AC := .cond (.t 4) (.seq (.reg (.op (some 2) (.mov (.c (.int .i64 0))) .nil) []) C104_3) .skip
def C104_5 : AC := .seq (.seq (.reg (.op (some 3) (.mov (.t 0)) (.op (some 4) (.call 89 [(.t 3)] (.r (.one .bool))) .nil)) []) C104_4) C104_2
def C104_6 : AC := .seq (.reg (.op (some 2) (.mov (.c (.int .i64 0))) .nil) []) C104_5
def F104 : AFunc := { ntmps := 14, results := [.tmp 2], body := C104_6 }
theorem ok104 : okFn Try.prog 104 F104 = true := by kernel_rfl
/-! (*sallyport/packet.Packet).may -/
def C105_1 : AC := .ret
def C105_2 : AC := .seq (.reg (.op (some 4) (.mov (.c (.int .i64 0))) .nil) []) C105_1
def C105_3 : AC := .ret
def C105_4 : AC := .ret
def C105_5 : AC := .ret
def C105_6 : AC := .cond (.t 14) (.seq (.reg (.op (some 4) (.mov (.c (.int .i64 6))) .nil) []) C105_5) .skip
def C105_7 : AC := .cond (.t 8) (.seq (.reg (.op (some 4) (.mov (.c (.int .i64 5))) .nil) []) C105_4) (.seq (.reg (.op (some 15) (.mov (.t 1)) (.op (some 16) (.mov (.t 0)) (.op (some 17) (.call 104 [(.t 16)] (.r (.one (.int .i64)))) (.op (some 18) (.neg (.t 17)) (.op (some 19) (.bin .lss (.t 15) (.t 18)) (.op (some 14) (.mov (.t 19)) .nil)))))) []) C105_6)
def C105_8 : AC := .cond (.t 5) (.seq (.reg (.op (some 4) (.mov (.c (.int .i64 1))) .nil) []) C105_3) (.seq (.reg (.op (some 9) (.mov (.t 1)) (.op (some 10) (.mov (.t 0)) (.op (some 11) (.call 104 [(.t 10)] (.r (.one (.int .i64)))) (.op (some 12) (.bin .sub (.c (.int .i64 2048)) (.t 11)) (.op (some 13) (.bin .gtr (.t 9) (.t 12)) (.op (some 8) (.mov (.t 13)) .nil)))))) []) C105_7)
def C105_9 : AC := .seq (.block 0 (.seq (.reg (.op (some 6) (.mov (.t 0)) (.op (some 7) (.call 89 [(.t 6)] (.r (.one .bool))) (.op (some 5) (.mov (.t 7)) .nil))) []) C105_8)) C105_2
def C105_10 : AC := .seq (.reg (.op (some 4) (.mov (.c (.int .i64 0))) .nil) []) C105_9
def F105 : AFunc := { ntmps := 20, results := [.tmp 4], body := C105_10 }
theorem ok105 : okFn Try.prog 105 F105 = true := by kernel_rfl
end Go.Proofs.Ytidofnpfeibbfaa.M
