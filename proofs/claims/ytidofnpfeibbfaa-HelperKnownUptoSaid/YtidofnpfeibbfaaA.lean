import Derived.Test.YtidofnpfeibbfaaXRen
import Derived.Test.YtidofnpfeibbfaaProg
set_option linter.unusedVariables false
set_option maxRecDepth 100000
namespace Go.Proofs.Ytidofnpfeibbfaa.M
open Go.Abs
noncomputable section
variable (call : CallF) (meth : MethF)
def C8_1 : AC := .ret
def C8_2 : AC := .seq (.reg (.o 10 (.loadA [.int .u8, .int .u8, .int .u8, .int .i16, .int .i32] (.t 4)) (.o 11 (.call 36 [(.t 10)] (.r (.one .sl))) (.o 12 (.len (.t 11)) (.o 2 (.mov (.t 12)) (.o 3 (.mov (.c (.bool true))) .nil))))) []) C8_1
def C8_3 : AC := .ret
def C8_4 : AC := .cond (.t 9) (.seq (.reg (.o 2 (.mov (.c (.int .i64 0))) (.o 3 (.mov (.c (.bool false))) .nil)) []) C8_3) .skip
def C8_5 : AC := .seq (.seq (.reg (.o 7 (.loadA [.int .u8, .int .u8, .int .u8, .int .i16, .int .i32] (.t 4)) (.o 8 (.callP 35 [(.t 7)] (.r (.one (.int .i64)))) (.o 9 (.bin .neq (.t 8) (.c (.int .i64 0))) .nil))) []) C8_4) C8_2
def C8_6 : AC := .seq (.reg (.o 5 (.mov (.t 0)) (.o 6 (.build [.int .u8 0, .int .u8 0, .int .u8 0, .int .i16 0, .int .i32 0] [(0, 1, (.c (.int .u8 35))), (4, 1, (.t 5))]) (.o 4 (.alloc [.int .u8 0, .int .u8 0, .int .u8 0, .int .i16 0, .int .i32 0]) (.op none (.store 5 (.t 4) (.t 6)) .nil)))) []) C8_5
def C8_7 : AC := .seq (.reg (.o 2 (.mov (.c (.int .i64 0))) (.o 3 (.mov (.c (.bool false))) .nil)) []) C8_6
def F8 : AFunc := { ntmps := 13, results := [.tmp 2, .tmp 3], body := C8_7 }
def p8_0 (x0_1 : Int) (M : Mem) : Rs := run false call meth F8.results [.code C8_7] (some (.int .i32 x0_1) :: nn 12 []) M
theorem p8_0_eq (x0_1 : Int) (M : Mem) : p8_0 call meth x0_1 M = (let M101 := M.alloc ⟨[.int .u8 0, .int .u8 0, .int .u8 0, .int .i16 0, .int .i32 0], .fixed⟩; (Option.bind (M101.st M.n 0 [.int .u8 35, .int .u8 0, .int .u8 0, .int .i16 0, .int .i32 x0_1]) fun M102 => (Option.bind (M102.ldI .u8 M.n 0) fun x103 => (Option.bind (M102.ldI .u8 M.n 1) fun x104 => (Option.bind (M102.ldI .u8 M.n 2) fun x105 => (Option.bind (M102.ldI .i16 M.n 3) fun x106 => (Option.bind (M102.ldI .i32 M.n 4) fun x107 => (Option.bind (call 35 [.agg [.int .u8 x103, .int .u8 x104, .int .u8 x105, .int .i16 x106, .int .i32 x107]] Mem.empty) fun r108 => (Option.bind (r108.1.int? .i64) fun x109 => (cond (x109 != 0) (some (.tup [.int .i64 0, .bool false], M102)) (Option.bind (M102.ldI .u8 M.n 0) fun x110 => (Option.bind (M102.ldI .u8 M.n 1) fun x111 => (Option.bind (M102.ldI .u8 M.n 2) fun x112 => (Option.bind (M102.ldI .i16 M.n 3) fun x113 => (Option.bind (M102.ldI .i32 M.n 4) fun x114 => (Option.bind (call 36 [.agg [.int .u8 x110, .int .u8 x111, .int .u8 x112, .int .i16 x113, .int .i32 x114]] M102) fun r115 => (Option.bind (r115.1.sl?) fun x116 => (some (.tup [.int .i64 ((x116.2.1 : Nat) : Int), .bool true], r115.2))))))))))))))))))) :=
  (seg_run false call meth F8.results 100000 [.code C8_7] _ M).symm.trans (by kernel_rfl)
theorem run8 (x0_1 : Int) (M : Mem) : run false call meth F8.results [.code F8.body] (frame0 F8 [.int .i32 x0_1]) M = p8_0 call meth x0_1 M := by kernel_rfl
theorem ok8 : okFn Try.prog 8 F8 = true := by kernel_rfl
def C9_1 : AC := .ret
def C9_2 : AC := .seq (.reg (.o 8 (.mov (.t 0)) (.o 9 (.callP 38 [(.t 8)] (.r (.one (.int .i64)))) (.o 2 (.mov (.t 9)) (.o 3 (.mov (.c (.bool true))) .nil)))) []) C9_1
def C9_3 : AC := .ret
def C9_4 : AC := .cond (.t 7) (.seq (.reg (.o 2 (.mov (.c (.int .i64 0))) (.o 3 (.mov (.c (.bool false))) .nil)) []) C9_3) .skip
def C9_5 : AC := .seq (.seq (.reg (.o 4 (.mov (.t 0)) (.o 5 (.build [.int .u8 0, .int .u8 0, .int .u8 0, .int .i16 0, .int .i32 0] [(0, 1, (.c (.int .u8 35))), (4, 1, (.t 4))]) (.o 6 (.callP 37 [(.t 5)] (.r (.one (.int .i64)))) (.o 7 (.bin .neq (.t 6) (.c (.int .i64 0))) .nil)))) []) C9_4) C9_2
def C9_6 : AC := .seq (.reg (.o 2 (.mov (.c (.int .i64 0))) (.o 3 (.mov (.c (.bool false))) .nil)) []) C9_5
def F9 : AFunc := { ntmps := 10, results := [.tmp 2, .tmp 3], body := C9_6 }
theorem ok9 : okFn Try.prog 9 F9 = true := by kernel_rfl
def C10_1 : AC := .ret
def C10_2 : AC := .seq (.reg (.o 3 (.mov (.t 0)) (.o 4 (.bin .eql (.t 3) (.c (.int .i32 3))) (.o 5 (.mov (.t 4)) (.grp 5 false (.o 6 (.mov (.t 0)) (.o 7 (.bin .eql (.t 6) (.c (.int .i32 4))) .nil)) (.o 8 (.pick (.t 5) (.c (.bool true)) (.t 7)) (.o 2 (.mov (.t 8)) .nil)))))) []) C10_1
def C10_3 : AC := .seq (.reg (.o 2 (.mov (.c (.bool false))) .nil) []) C10_2
def F10 : AFunc := { ntmps := 9, results := [.tmp 2], body := C10_3 }
def p10_0 (x0_1 : Int) (M : Mem) : Rs := run false call meth F10.results [.code C10_3] (some (.int .i32 x0_1) :: nn 8 []) M
theorem p10_0_eq (x0_1 : Int) (M : Mem) : p10_0 call meth x0_1 M = (cond (x0_1 == 3) (some (.bool true, M)) (some (.bool (x0_1 == 4), M))) :=
  (seg_run false call meth F10.results 100000 [.code C10_3] _ M).symm.trans (by kernel_rfl)
theorem run10 (x0_1 : Int) (M : Mem) : run false call meth F10.results [.code F10.body] (frame0 F10 [.int .i32 x0_1]) M = p10_0 call meth x0_1 M := by kernel_rfl
theorem ok10 : okFn Try.prog 10 F10 = true := by kernel_rfl
def C11_1 : AC := .ret
def C11_2 : AC := .seq (.reg (.o 3 (.mov (.t 0)) (.o 4 (.bin .eql (.t 3) (.c (.int .i32 3))) (.o 5 (.mov (.t 4)) (.grp 5 false (.o 6 (.mov (.t 0)) (.o 7 (.bin .eql (.t 6) (.c (.int .i32 4))) .nil)) (.o 8 (.pick (.t 5) (.c (.bool true)) (.t 7)) (.o 2 (.mov (.t 8)) .nil)))))) []) C11_1
def C11_3 : AC := .seq (.reg (.o 2 (.mov (.c (.bool false))) .nil) []) C11_2
def F11 : AFunc := { ntmps := 9, results := [.tmp 2], body := C11_3 }
theorem ok11 : okFn Try.prog 11 F11 = true := by kernel_rfl
def C35_1 : AC := .ret
def C35_2 : AC := .seq (.reg (.o 2 (.mov (.c (.int .i64 0))) .nil) []) C35_1
def C35_3 : AC := .ret
def C35_4 : AC := .ret
def C35_5 : AC := .ret
def C35_6 : AC := .cond (.t 33) (.seq (.reg (.o 2 (.mov (.c (.int .i64 130))) .nil) []) C35_5) .skip
def C35_7 : AC := .kil (rg 0 33 (rg 34 12 [])) (.pt C35_6)
def C35_8 : AC := .cond (.t 33) .skip (.reg (.o 40 (.mov (.t 3)) (.o 41 (.fldA 4 (.t 1)) (.o 42 (.load1 (.int .i32) (.t 41)) (.o 43 (.convI .i64 (.t 42)) (.o 44 (.callP 57 [(.t 40), (.t 43)] (.r (.one .bool))) (.o 45 (.not (.t 44)) (.o 33 (.mov (.t 45)) .nil))))))) [])
def C35_9 : AC := .cond (.t 16) (.seq (.reg (.o 2 (.mov (.c (.int .i64 130))) .nil) []) C35_4) (.seq (.seq (.reg (.o 34 (.mov (.t 3)) (.o 35 (.fldA 3 (.t 1)) (.o 36 (.load1 (.int .i16) (.t 35)) (.o 37 (.convI .i64 (.t 36)) (.o 38 (.callP 56 [(.t 34), (.t 37)] (.r (.one .bool))) (.o 39 (.not (.t 38)) (.o 33 (.mov (.t 39)) .nil))))))) []) C35_8) C35_7)
def C35_10 : AC := .kil (0 :: 2 :: rg 4 12 (rg 17 29 [])) (.pt C35_9)
def C35_11 : AC := .cond (.t 16) .skip (.reg (.o 25 (.mov (.t 3)) (.o 26 (.bin .and (.t 25) (.c (.int .i64 2))) (.o 27 (.bin .eql (.t 26) (.c (.int .i64 0))) (.o 28 (.mov (.t 27)) (.grp 28 true (.o 29 (.fldA 2 (.t 1)) (.o 30 (.load1 (.int .u8) (.t 29)) (.o 31 (.bin .gtr (.t 30) (.c (.int .u8 0))) .nil))) (.o 32 (.pick (.t 28) (.t 31) (.c (.bool false))) (.o 16 (.mov (.t 32)) .nil))))))) [])
def C35_12 : AC := .seq (.seq (.reg (.o 17 (.mov (.t 3)) (.o 18 (.bin .and (.t 17) (.c (.int .i64 1))) (.o 19 (.bin .eql (.t 18) (.c (.int .i64 0))) (.o 20 (.mov (.t 19)) (.grp 20 true (.o 21 (.fldA 1 (.t 1)) (.o 22 (.load1 (.int .u8) (.t 21)) (.o 23 (.bin .gtr (.t 22) (.c (.int .u8 0))) .nil))) (.o 24 (.pick (.t 20) (.t 23) (.c (.bool false))) (.o 16 (.mov (.t 24)) .nil))))))) []) C35_11) C35_10
def C35_13 : AC := .cond (.t 7) (.seq (.reg (.o 2 (.mov (.c (.int .i64 130))) .nil) []) C35_3) (.kil (0 :: 2 :: rg 4 42 []) (.pt C35_12))
def C35_14 : AC := .kil (0 :: 2 :: 4 :: 5 :: 6 :: rg 8 38 []) (.pt C35_13)
def C35_15 : AC := .cond (.t 7) .skip (.reg (.o 13 (.fldA 2 (.t 1)) (.o 14 (.load1 (.int .u8) (.t 13)) (.o 15 (.bin .geq (.t 14) (.c (.int .u8 10))) (.o 7 (.mov (.t 15)) .nil)))) [])
def C35_16 : AC := .cond (.t 7) .skip (.seq (.reg (.o 10 (.fldA 1 (.t 1)) (.o 11 (.load1 (.int .u8) (.t 10)) (.o 12 (.bin .geq (.t 11) (.c (.int .u8 10))) (.o 7 (.mov (.t 12)) .nil)))) []) C35_15)
def C35_17 : AC := .seq (.block 0 (.seq (.seq (.reg (.o 8 (.mov (.t 3)) (.o 9 (.bin .eql (.t 8) (.c (.int .i64 2048))) (.o 7 (.mov (.t 9)) .nil))) []) C35_16) C35_14)) C35_2
def C35_18 : AC := .seq (.reg (.o 4 (.fldA 0 (.t 1)) (.o 5 (.load1 (.int .u8) (.t 4)) (.o 6 (.callP 55 [(.t 5)] (.r (.one (.int .i64)))) (.o 3 (.mov (.t 6)) .nil)))) []) C35_17
def C35_19 : AC := .seq (.reg (.o 1 (.box (.t 0)) (.o 2 (.mov (.c (.int .i64 0))) .nil)) []) C35_18
def F35 : AFunc := { ntmps := 46, results := [.tmp 2], body := C35_19 }
def p35_0 (x0_1 : Int) (x0_2 : Int) (x0_3 : Int) (x0_4 : Int) (x0_5 : Int) (M : Mem) : Rs := run false call meth F35.results [.code C35_19] (some (.agg [.int .u8 x0_1, .int .u8 x0_2, .int .u8 x0_3, .int .i16 x0_4, .int .i32 x0_5]) :: nn 45 []) M
def p35_1 (x1_105 : Nat) (x3_106 : Int) (x7_107 : Bool) (M : Mem) : Rs := run false call meth F35.results [.code C35_13, .inBlock 0, .code C35_2] (none :: some (.ptr (some (x1_105, 0))) :: none :: some (.int .i64 x3_106) :: none :: none :: none :: some (.bool x7_107) :: nn 38 []) M
def p35_2 (x1_201 : Nat) (x3_202 : Int) (M : Mem) : Rs := run false call meth F35.results [.code C35_12, .inBlock 0, .code C35_2] (none :: some (.ptr (some (x1_201, 0))) :: none :: some (.int .i64 x3_202) :: nn 42 []) M
def p35_3 (x1_302 : Nat) (x3_303 : Int) (x16_304 : Bool) (M : Mem) : Rs := run false call meth F35.results [.code C35_9, .inBlock 0, .code C35_2] (none :: some (.ptr (some (x1_302, 0))) :: none :: some (.int .i64 x3_303) :: nn 12 (some (.bool x16_304) :: nn 29 [])) M
def p35_4 (x33_404 : Bool) (M : Mem) : Rs := run false call meth F35.results [.code C35_6, .inBlock 0, .code C35_2] (nn 33 (some (.bool x33_404) :: nn 12 [])) M
theorem p35_0_eq (x0_1 : Int) (x0_2 : Int) (x0_3 : Int) (x0_4 : Int) (x0_5 : Int) (M : Mem) : p35_0 call meth x0_1 x0_2 x0_3 x0_4 x0_5 M = (let M101 := M.alloc ⟨[.int .u8 x0_1, .int .u8 x0_2, .int .u8 x0_3, .int .i16 x0_4, .int .i32 x0_5], .fixed⟩; (Option.bind (M101.ldI .u8 M.n 0) fun x102 => (Option.bind (call 55 [.int .u8 x102] Mem.empty) fun r103 => (Option.bind (r103.1.int? .i64) fun x104 => (cond (x104 == 2048) (p35_1 call meth M.n x104 (x104 == 2048) M101) (Option.bind (M101.ldI .u8 M.n 1) fun x108 => (cond (decide (x108 ≥ 10)) (p35_1 call meth M.n x104 (decide (x108 ≥ 10)) M101) (Option.bind (M101.ldI .u8 M.n 2) fun x109 => (p35_1 call meth M.n x104 (decide (x109 ≥ 10)) M101))))))))) :=
  (seg_run false call meth F35.results 100000 [.code C35_19] _ M).symm.trans (by kernel_rfl)
theorem p35_1_eq (x1_105 : Nat) (x3_106 : Int) (x7_107 : Bool) (M : Mem) : p35_1 call meth x1_105 x3_106 x7_107 M = (cond x7_107 (some (.int .i64 130, M)) (p35_2 call meth x1_105 x3_106 M)) :=
  (seg_run false call meth F35.results 100000 [.code C35_13, .inBlock 0, .code C35_2] _ M).symm.trans (by kernel_rfl)
theorem p35_2_eq (x1_201 : Nat) (x3_202 : Int) (M : Mem) : p35_2 call meth x1_201 x3_202 M = (cond ((IntKind.wrap .i64 ((BitVec.ofInt (IntKind.bits .i64) x3_202 &&& BitVec.ofInt (IntKind.bits .i64) 1).toNat)) == 0) (Option.bind (M.ldI .u8 x1_201 1) fun x301 => (cond (decide (x301 > 0)) (p35_3 call meth x1_201 x3_202 (decide (x301 > 0)) M) (cond ((IntKind.wrap .i64 ((BitVec.ofInt (IntKind.bits .i64) x3_202 &&& BitVec.ofInt (IntKind.bits .i64) 2).toNat)) == 0) (Option.bind (M.ldI .u8 x1_201 2) fun x305 => (p35_3 call meth x1_201 x3_202 (decide (x305 > 0)) M)) (p35_3 call meth x1_201 x3_202 false M)))) (cond ((IntKind.wrap .i64 ((BitVec.ofInt (IntKind.bits .i64) x3_202 &&& BitVec.ofInt (IntKind.bits .i64) 2).toNat)) == 0) (Option.bind (M.ldI .u8 x1_201 2) fun x306 => (p35_3 call meth x1_201 x3_202 (decide (x306 > 0)) M)) (p35_3 call meth x1_201 x3_202 false M))) :=
  (seg_run false call meth F35.results 100000 [.code C35_12, .inBlock 0, .code C35_2] _ M).symm.trans (by kernel_rfl)
theorem p35_3_eq (x1_302 : Nat) (x3_303 : Int) (x16_304 : Bool) (M : Mem) : p35_3 call meth x1_302 x3_303 x16_304 M = (cond x16_304 (some (.int .i64 130, M)) (Option.bind (M.ldI .i16 x1_302 3) fun x401 => (Option.bind (call 56 [.int .i64 x3_303, .int .i64 (IntKind.wrap .i64 x401)] Mem.empty) fun r402 => (Option.bind (r402.1.bool?) fun x403 => (cond (!x403) (p35_4 call meth (!x403) M) (Option.bind (M.ldI .i32 x1_302 4) fun x405 => (Option.bind (call 57 [.int .i64 x3_303, .int .i64 (IntKind.wrap .i64 x405)] Mem.empty) fun r406 => (Option.bind (r406.1.bool?) fun x407 => (p35_4 call meth (!x407) M))))))))) :=
  (seg_run false call meth F35.results 100000 [.code C35_9, .inBlock 0, .code C35_2] _ M).symm.trans (by kernel_rfl)
theorem p35_4_eq (x33_404 : Bool) (M : Mem) : p35_4 call meth x33_404 M = (cond x33_404 (some (.int .i64 130, M)) (some (.int .i64 0, M))) :=
  (seg_run false call meth F35.results 100000 [.code C35_6, .inBlock 0, .code C35_2] _ M).symm.trans (by kernel_rfl)
theorem run35 (x0_1 : Int) (x0_2 : Int) (x0_3 : Int) (x0_4 : Int) (x0_5 : Int) (M : Mem) : run false call meth F35.results [.code F35.body] (frame0 F35 [.agg [.int .u8 x0_1, .int .u8 x0_2, .int .u8 x0_3, .int .i16 x0_4, .int .i32 x0_5]]) M = p35_0 call meth x0_1 x0_2 x0_3 x0_4 x0_5 M := by kernel_rfl
theorem ok35 : okFn Try.prog 35 F35 = true := by kernel_rfl
def C36_1 : AC := .ret
def C36_2 : AC := .seq (.reg (.o 63 (.mov (.t 5)) (.o 2 (.mov (.t 63)) .nil)) []) C36_1
def C36_3 : AC := .reg (.o 62 (.bin .add (.t 50) (.c (.int .i64 1))) (.o 50 (.mov (.t 62)) .nil)) []
def C36_4 : AC := .cond (.t 57) (.reg (.o 58 (.mov (.t 5)) (.o 59 (.mov (.t 6)) (.o 60 (.bslice [.int .i64 0] [(0, 1, (.t 59))] 1) (.o 61 (.app 1 8 (.t 58) (.t 60)) (.o 5 (.mov (.t 61)) .nil))))) []) .skip
def C36_5 : AC := .seq (.reg (.o 53 (.mov (.t 4)) (.o 54 (.mov (.t 6)) (.o 55 (.shift .shr (.t 53) (.t 54)) (.o 56 (.bin .and (.t 55) (.c (.int .i64 1))) (.o 57 (.bin .neq (.t 56) (.c (.int .i64 0))) .nil))))) []) C36_4
def C36_6 : AC := .seq (.block 2 (.seq (.reg (.o 52 (.mov (.t 50)) (.o 6 (.mov (.t 52)) .nil)) []) C36_5)) C36_3
def C36_7 : AC := .seq (.cond (.t 51) .skip (.exit 1)) C36_6
def C36_8 : AC := .seq (.reg (.o 51 (.bin .lss (.t 50) (.c (.int .i64 10))) .nil) []) C36_7
def C36_9 : AC := .kil (0 :: 1 :: 2 :: 3 :: rg 6 44 (rg 51 13 [])) (.pt C36_8)
def C36_10 : AC := .block 1 (.loop C36_9)
def C36_11 : AC := .seq (.seq (.reg (.o 50 (.mov (.c (.int .i64 0))) .nil) []) C36_10) C36_2
def C36_12 : AC := .seq (.reg (.o 5 (.mov (.c (.sl none 0 (.known 0)))) .nil) []) C36_11
def C36_13 : AC := .kil (0 :: 1 :: 2 :: 3 :: rg 5 59 []) (.pt C36_12)
def C36_14 : AC := .cond (.t 40) (.reg (.o 42 (.mov (.t 4)) (.o 43 (.fldA 4 (.t 1)) (.o 44 (.load1 (.int .i32) (.t 43)) (.o 45 (.callP 58 [(.t 44)] (.r (.one (.int .i64)))) (.o 46 (.bin .add (.t 45) (.c (.int .i64 1))) (.o 47 (.shift .shl (.c (.int .i64 1)) (.t 46)) (.o 48 (.bin .sub (.t 47) (.c (.int .i64 2))) (.o 49 (.bin .or (.t 42) (.t 48)) (.o 4 (.mov (.t 49)) .nil))))))))) []) .skip
def C36_15 : AC := .cond (.t 36) (.reg (.o 38 (.mov (.t 4)) (.o 39 (.bin .or (.t 38) (.c (.int .i64 1))) (.o 4 (.mov (.t 39)) .nil))) []) (.seq (.reg (.o 41 (.bin .eql (.t 35) (.c (.int .u8 35))) (.o 40 (.mov (.t 41)) .nil)) []) C36_14)
def C36_16 : AC := .block 0 (.seq (.reg (.o 37 (.bin .eql (.t 35) (.c (.int .u8 36))) (.o 36 (.mov (.t 37)) .nil)) []) C36_15)
def C36_17 : AC := .seq (.seq (.reg (.o 34 (.fldA 0 (.t 1)) (.o 35 (.load1 (.int .u8) (.t 34)) .nil)) []) C36_16) C36_13
def C36_18 : AC := .kil (0 :: 2 :: 3 :: rg 5 59 []) (.pt C36_17)
def C36_19 : AC := .cond (.t 28) (.reg (.o 29 (.mov (.t 4)) (.o 30 (.fldA 1 (.t 1)) (.o 31 (.load1 (.int .u8) (.t 30)) (.o 32 (.shift .shl (.c (.int .i64 1)) (.t 31)) (.o 33 (.bin .or (.t 29) (.t 32)) (.o 4 (.mov (.t 33)) .nil)))))) []) .skip
def C36_20 : AC := .seq (.seq (.reg (.o 21 (.mov (.t 3)) (.o 22 (.bin .and (.t 21) (.c (.int .i64 1))) (.o 23 (.bin .neq (.t 22) (.c (.int .i64 0))) (.o 24 (.mov (.t 23)) (.grp 24 true (.o 25 (.mov (.t 3)) (.o 26 (.bin .and (.t 25) (.c (.int .i64 1024))) (.o 27 (.bin .eql (.t 26) (.c (.int .i64 0))) .nil))) (.o 28 (.pick (.t 24) (.t 27) (.c (.bool false))) .nil)))))) []) C36_19) C36_18
def C36_21 : AC := .kil (0 :: 2 :: rg 5 59 []) (.pt C36_20)
def C36_22 : AC := .cond (.t 15) (.reg (.o 16 (.mov (.t 4)) (.o 17 (.fldA 2 (.t 1)) (.o 18 (.load1 (.int .u8) (.t 17)) (.o 19 (.shift .shl (.c (.int .i64 1)) (.t 18)) (.o 20 (.bin .or (.t 16) (.t 19)) (.o 4 (.mov (.t 20)) .nil)))))) []) .skip
def C36_23 : AC := .seq (.seq (.reg (.o 13 (.mov (.t 3)) (.o 14 (.bin .and (.t 13) (.c (.int .i64 2))) (.o 15 (.bin .neq (.t 14) (.c (.int .i64 0))) .nil))) []) C36_22) C36_21
def C36_24 : AC := .seq (.reg (.o 4 (.mov (.c (.int .i64 0))) .nil) []) C36_23
def C36_25 : AC := .seq (.reg (.o 10 (.fldA 0 (.t 1)) (.o 11 (.load1 (.int .u8) (.t 10)) (.o 12 (.callP 55 [(.t 11)] (.r (.one (.int .i64)))) (.o 3 (.mov (.t 12)) .nil)))) []) C36_24
def C36_26 : AC := .ret
def C36_27 : AC := .cond (.t 9) (.seq (.reg (.o 2 (.mov (.c (.sl none 0 (.known 0)))) .nil) []) C36_26) .skip
def C36_28 : AC := .seq (.seq (.reg (.o 7 (.loadA [.int .u8, .int .u8, .int .u8, .int .i16, .int .i32] (.t 1)) (.o 8 (.callP 35 [(.t 7)] (.r (.one (.int .i64)))) (.o 9 (.bin .neq (.t 8) (.c (.int .i64 0))) .nil))) []) C36_27) C36_25
def C36_29 : AC := .seq (.reg (.o 1 (.box (.t 0)) (.o 2 (.mov (.c (.sl none 0 (.known 0)))) .nil)) []) C36_28
def F36 : AFunc := { ntmps := 64, results := [.tmp 2], body := C36_29 }
def p36_0 (x0_1 : Int) (x0_2 : Int) (x0_3 : Int) (x0_4 : Int) (x0_5 : Int) (M : Mem) : Rs := run false call meth F36.results [.code C36_29] (some (.agg [.int .u8 x0_1, .int .u8 x0_2, .int .u8 x0_3, .int .i16 x0_4, .int .i32 x0_5]) :: nn 63 []) M
def p36_1 (x1_113 : Nat) (x3_114 : Int) (x4_115 : Int) (M : Mem) : Rs := run false call meth F36.results [.code C36_20] (none :: some (.ptr (some (x1_113, 0))) :: none :: some (.int .i64 x3_114) :: some (.int .i64 x4_115) :: nn 59 []) M
def p36_2 (x1_202 : Nat) (x4_203 : Int) (M : Mem) : Rs := run false call meth F36.results [.code C36_17] (none :: some (.ptr (some (x1_202, 0))) :: none :: none :: some (.int .i64 x4_203) :: nn 59 []) M
def p36_3 (x4_302 : Int) (M : Mem) : Rs := run false call meth F36.results [.code C36_12] (nn 4 (some (.int .i64 x4_302) :: nn 59 [])) M
def p36_4 (x4_401 : Int) (x5_402a : Ad) (x5_402l : Nat) (x5_402c : Cap) (x50_403 : Int) (M : Mem) : Rs := run false call meth F36.results [.code C36_8, .inLoop C36_9, .inBlock 1, .code C36_2] (nn 4 (some (.int .i64 x4_401) :: some (.sl x5_402a x5_402l x5_402c) :: nn 44 (some (.int .i64 x50_403) :: nn 13 []))) M
theorem p36_0_eq (x0_1 : Int) (x0_2 : Int) (x0_3 : Int) (x0_4 : Int) (x0_5 : Int) (M : Mem) : p36_0 call meth x0_1 x0_2 x0_3 x0_4 x0_5 M = (let M101 := M.alloc ⟨[.int .u8 x0_1, .int .u8 x0_2, .int .u8 x0_3, .int .i16 x0_4, .int .i32 x0_5], .fixed⟩; (Option.bind (M101.ldI .u8 M.n 0) fun x102 => (Option.bind (M101.ldI .u8 M.n 1) fun x103 => (Option.bind (M101.ldI .u8 M.n 2) fun x104 => (Option.bind (M101.ldI .i16 M.n 3) fun x105 => (Option.bind (M101.ldI .i32 M.n 4) fun x106 => (Option.bind (call 35 [.agg [.int .u8 x102, .int .u8 x103, .int .u8 x104, .int .i16 x105, .int .i32 x106]] Mem.empty) fun r107 => (Option.bind (r107.1.int? .i64) fun x108 => (cond (x108 != 0) (some (.sl none 0 (.known 0), M101)) (Option.bind (M101.ldI .u8 M.n 0) fun x109 => (Option.bind (call 55 [.int .u8 x109] Mem.empty) fun r110 => (Option.bind (r110.1.int? .i64) fun x111 => (cond ((IntKind.wrap .i64 ((BitVec.ofInt (IntKind.bits .i64) x111 &&& BitVec.ofInt (IntKind.bits .i64) 2).toNat)) != 0) (Option.bind (M101.ldI .u8 M.n 2) fun x112 => (cond (decide (x112 < 0)) none (p36_1 call meth M.n x111 (IntKind.wrap .i64 ((BitVec.ofInt (IntKind.bits .i64) 0 ||| BitVec.ofInt (IntKind.bits .i64) (IntKind.wrap .i64 (1 * 2 ^ Nat.min x112.toNat (IntKind.bits .i64)))).toNat)) M101))) (p36_1 call meth M.n x111 0 M101)))))))))))))) :=
  (seg_run false call meth F36.results 100000 [.code C36_29] _ M).symm.trans (by kernel_rfl)
theorem p36_1_eq (x1_113 : Nat) (x3_114 : Int) (x4_115 : Int) (M : Mem) : p36_1 call meth x1_113 x3_114 x4_115 M = (cond ((IntKind.wrap .i64 ((BitVec.ofInt (IntKind.bits .i64) x3_114 &&& BitVec.ofInt (IntKind.bits .i64) 1).toNat)) != 0) (cond ((IntKind.wrap .i64 ((BitVec.ofInt (IntKind.bits .i64) x3_114 &&& BitVec.ofInt (IntKind.bits .i64) 1024).toNat)) == 0) (Option.bind (M.ldI .u8 x1_113 1) fun x201 => (cond (decide (x201 < 0)) none (p36_2 call meth x1_113 (IntKind.wrap .i64 ((BitVec.ofInt (IntKind.bits .i64) x4_115 ||| BitVec.ofInt (IntKind.bits .i64) (IntKind.wrap .i64 (1 * 2 ^ Nat.min x201.toNat (IntKind.bits .i64)))).toNat)) M))) (p36_2 call meth x1_113 x4_115 M)) (p36_2 call meth x1_113 x4_115 M)) :=
  (seg_run false call meth F36.results 100000 [.code C36_20] _ M).symm.trans (by kernel_rfl)
theorem p36_2_eq (x1_202 : Nat) (x4_203 : Int) (M : Mem) : p36_2 call meth x1_202 x4_203 M = (Option.bind (M.ldI .u8 x1_202 0) fun x301 => (cond (x301 == 36) (p36_3 call meth (IntKind.wrap .i64 ((BitVec.ofInt (IntKind.bits .i64) x4_203 ||| BitVec.ofInt (IntKind.bits .i64) 1).toNat)) M) (cond (x301 == 35) (Option.bind (M.ldI .i32 x1_202 4) fun x303 => (Option.bind (call 58 [.int .i32 x303] Mem.empty) fun r304 => (Option.bind (r304.1.int? .i64) fun x305 => (cond (decide ((IntKind.wrap .i64 (x305 + 1)) < 0)) none (p36_3 call meth (IntKind.wrap .i64 ((BitVec.ofInt (IntKind.bits .i64) x4_203 ||| BitVec.ofInt (IntKind.bits .i64) (IntKind.wrap .i64 ((IntKind.wrap .i64 (1 * 2 ^ Nat.min (IntKind.wrap .i64 (x305 + 1)).toNat (IntKind.bits .i64))) - 2))).toNat)) M))))) (p36_3 call meth x4_203 M)))) :=
  (seg_run false call meth F36.results 100000 [.code C36_17] _ M).symm.trans (by kernel_rfl)
theorem p36_3_eq (x4_302 : Int) (M : Mem) : p36_3 call meth x4_302 M = (p36_4 call meth x4_302 none 0 (.known 0) 0 M) :=
  (seg_run false call meth F36.results 100000 [.code C36_12] _ M).symm.trans (by kernel_rfl)
theorem p36_4_eq (x4_401 : Int) (x5_402a : Ad) (x5_402l : Nat) (x5_402c : Cap) (x50_403 : Int) (M : Mem) : p36_4 call meth x4_401 x5_402a x5_402l x5_402c x50_403 M = (cond (decide (x50_403 < 10)) (cond (decide (x50_403 < 0)) none (cond ((IntKind.wrap .i64 ((BitVec.ofInt (IntKind.bits .i64) (Int.fdiv x4_401 (2 ^ Nat.min x50_403.toNat (IntKind.bits .i64))) &&& BitVec.ofInt (IntKind.bits .i64) 1).toNat)) != 0) (let M501 := M.alloc ⟨[.int .i64 x50_403], .fixed⟩; (appK false 1 8 M501 x5_402a x5_402l x5_402c (.sl (some (M.n, 0)) 1 (.known 1)) fun s502a s502l s502c M503 => (p36_4 call meth x4_401 s502a s502l s502c (IntKind.wrap .i64 (x50_403 + 1)) M503))) (p36_4 call meth x4_401 x5_402a x5_402l x5_402c (IntKind.wrap .i64 (x50_403 + 1)) M))) (some (.sl x5_402a x5_402l x5_402c, M))) :=
  (seg_run false call meth F36.results 100000 [.code C36_8, .inLoop C36_9, .inBlock 1, .code C36_2] _ M).symm.trans (by kernel_rfl)
theorem run36 (x0_1 : Int) (x0_2 : Int) (x0_3 : Int) (x0_4 : Int) (x0_5 : Int) (M : Mem) : run false call meth F36.results [.code F36.body] (frame0 F36 [.agg [.int .u8 x0_1, .int .u8 x0_2, .int .u8 x0_3, .int .i16 x0_4, .int .i32 x0_5]]) M = p36_0 call meth x0_1 x0_2 x0_3 x0_4 x0_5 M := by kernel_rfl
theorem ok36 : okFn Try.prog 36 F36 = true := by kernel_rfl
def C37_1 : AC := .ret
def C37_2 : AC := .seq (.reg (.o 2 (.mov (.c (.int .i64 0))) .nil) []) C37_1
def C37_3 : AC := .ret
def C37_4 : AC := .cond (.t 58) (.seq (.reg (.o 2 (.mov (.c (.int .i64 130))) .nil) []) C37_3) .skip
def C37_5 : AC := .seq (.seq (.reg (.o 11 (.mov (.t 4)) (.o 12 (.not (.t 11)) (.o 13 (.mov (.t 12)) (.grp 13 false (.o 14 (.fldA 1 (.t 1)) (.o 15 (.load1 (.int .u8) (.t 14)) (.o 16 (.bin .gtr (.t 15) (.c (.int .u8 9))) .nil))) (.o 17 (.pick (.t 13) (.c (.bool true)) (.t 16)) (.o 18 (.mov (.t 17)) (.grp 18 false (.o 19 (.fldA 2 (.t 1)) (.o 20 (.load1 (.int .u8) (.t 19)) (.o 21 (.bin .gtr (.t 20) (.c (.int .u8 9))) .nil))) (.o 22 (.pick (.t 18) (.c (.bool true)) (.t 21)) (.o 23 (.mov (.t 22)) (.grp 23 false (.o 24 (.fldA 1 (.t 1)) (.o 25 (.load1 (.int .u8) (.t 24)) (.o 26 (.bin .gtr (.t 25) (.c (.int .u8 0))) (.o 27 (.mov (.t 26)) (.grp 27 true (.o 28 (.mov (.t 3)) (.o 29 (.callP 60 [(.t 28), (.c (.int .u8 100))] (.r (.one .bool))) (.o 30 (.not (.t 29)) .nil))) (.o 31 (.pick (.t 27) (.t 30) (.c (.bool false))) .nil)))))) (.o 32 (.pick (.t 23) (.c (.bool true)) (.t 31)) (.o 33 (.mov (.t 32)) (.grp 33 false (.o 34 (.fldA 2 (.t 1)) (.o 35 (.load1 (.int .u8) (.t 34)) (.o 36 (.bin .gtr (.t 35) (.c (.int .u8 0))) (.o 37 (.mov (.t 36)) (.grp 37 true (.o 38 (.mov (.t 3)) (.o 39 (.callP 60 [(.t 38), (.c (.int .u8 115))] (.r (.one .bool))) (.o 40 (.not (.t 39)) .nil))) (.o 41 (.pick (.t 37) (.t 40) (.c (.bool false))) .nil)))))) (.o 42 (.pick (.t 33) (.c (.bool true)) (.t 41)) (.o 43 (.mov (.t 42)) (.grp 43 false (.o 44 (.mov (.t 3)) (.o 45 (.fldA 3 (.t 1)) (.o 46 (.load1 (.int .i16) (.t 45)) (.o 47 (.convI .i64 (.t 46)) (.o 48 (.callP 61 [(.t 44), (.t 47)] (.r (.one .bool))) (.o 49 (.not (.t 48)) .nil)))))) (.o 50 (.pick (.t 43) (.c (.bool true)) (.t 49)) (.o 51 (.mov (.t 50)) (.grp 51 false (.o 52 (.mov (.t 3)) (.o 53 (.fldA 4 (.t 1)) (.o 54 (.load1 (.int .i32) (.t 53)) (.o 55 (.convI .i64 (.t 54)) (.o 56 (.callP 62 [(.t 52), (.t 55)] (.r (.one .bool))) (.o 57 (.not (.t 56)) .nil)))))) (.o 58 (.pick (.t 51) (.c (.bool true)) (.t 57)) .nil)))))))))))))))))))) []) C37_4) C37_2
def C37_6 : AC := .seq (.reg (.o 6 (.fldA 0 (.t 1)) (.o 7 (.load1 (.int .u8) (.t 6)) (.o 8 (.callP 59 [(.t 7)] (.tup [.one .str, .one .bool])) (.o 5 (.mov (.t 8)) (.o 9 (.ext (.t 5) 0) (.o 10 (.ext (.t 5) 1) (.o 3 (.mov (.t 9)) (.o 4 (.mov (.t 10)) .nil)))))))) []) C37_5
def C37_7 : AC := .seq (.reg (.o 1 (.box (.t 0)) (.o 2 (.mov (.c (.int .i64 0))) .nil)) []) C37_6
def F37 : AFunc := { ntmps := 59, results := [.tmp 2], body := C37_7 }
theorem ok37 : okFn Try.prog 37 F37 = true := by kernel_rfl
def C38_1 : AC := .ret
def C38_2 : AC := .seq (.reg (.o 2 (.mov (.c (.int .i64 1))) .nil) []) C38_1
def C38_3 : AC := .ret
def C38_4 : AC := .cond (.t 11) (.seq (.reg (.o 2 (.mov (.c (.int .i64 3))) .nil) []) C38_3) .skip
def C38_5 : AC := .seq (.seq (.reg (.o 10 (.mov (.t 0)) (.o 11 (.bin .geq (.t 10) (.c (.int .i32 16))) .nil)) []) C38_4) C38_2
def C38_6 : AC := .ret
def C38_7 : AC := .ret
def C38_8 : AC := .cond (.t 7) (.seq (.reg (.o 2 (.mov (.c (.int .i64 3))) .nil) []) C38_7) .skip
def C38_9 : AC := .kil (rg 1 6 (8 :: 9 :: 10 :: 11 :: [])) (.pt C38_8)
def C38_10 : AC := .cond (.t 7) .skip (.reg (.o 9 (.bin .eql (.t 3) (.c (.int .i32 5))) (.o 7 (.mov (.t 9)) .nil)) [])
def C38_11 : AC := .cond (.t 4) (.seq (.reg (.o 2 (.mov (.c (.int .i64 2))) .nil) []) C38_6) (.seq (.seq (.reg (.o 8 (.bin .eql (.t 3) (.c (.int .i32 2))) (.o 7 (.mov (.t 8)) .nil)) []) C38_10) C38_9)
def C38_12 : AC := .kil (1 :: 2 :: rg 5 7 []) (.pt C38_11)
def C38_13 : AC := .cond (.t 4) .skip (.reg (.o 6 (.bin .eql (.t 3) (.c (.int .i32 8))) (.o 4 (.mov (.t 6)) .nil)) [])
def C38_14 : AC := .block 0 (.seq (.seq (.reg (.o 5 (.bin .eql (.t 3) (.c (.int .i32 1))) (.o 4 (.mov (.t 5)) .nil)) []) C38_13) C38_12)
def C38_15 : AC := .seq (.seq (.reg (.o 3 (.mov (.t 0)) .nil) []) C38_14) C38_5
def C38_16 : AC := .seq (.reg (.o 2 (.mov (.c (.int .i64 0))) .nil) []) C38_15
def F38 : AFunc := { ntmps := 12, results := [.tmp 2], body := C38_16 }
theorem ok38 : okFn Try.prog 38 F38 = true := by kernel_rfl
def C55_1 : AC := .ret
def C55_2 : AC := .seq (.reg (.o 2 (.mov (.c (.int .i64 2048))) .nil) []) C55_1
def C55_3 : AC := .ret
def C55_4 : AC := .ret
def C55_5 : AC := .ret
def C55_6 : AC := .ret
def C55_7 : AC := .ret
def C55_8 : AC := .ret
def C55_9 : AC := .ret
def C55_10 : AC := .ret
def C55_11 : AC := .ret
def C55_12 : AC := .ret
def C55_13 : AC := .ret
def C55_14 : AC := .ret
def C55_15 : AC := .ret
def C55_16 : AC := .ret
def C55_17 : AC := .ret
def C55_18 : AC := .ret
def C55_19 : AC := .cond (.t 53) (.seq (.reg (.o 2 (.mov (.c (.int .i64 0))) .nil) []) C55_18) .skip
def C55_20 : AC := .kil (rg 0 53 (54 :: 55 :: [])) (.pt C55_19)
def C55_21 : AC := .cond (.t 53) .skip (.reg (.o 55 (.bin .eql (.t 3) (.c (.int .u8 36))) (.o 53 (.mov (.t 55)) .nil)) [])
def C55_22 : AC := .cond (.t 51) (.seq (.reg (.o 2 (.mov (.c (.int .i64 512))) .nil) []) C55_17) (.seq (.seq (.reg (.o 54 (.bin .eql (.t 3) (.c (.int .u8 34))) (.o 53 (.mov (.t 54)) .nil)) []) C55_21) C55_20)
def C55_23 : AC := .cond (.t 49) (.seq (.reg (.o 2 (.mov (.c (.int .i64 256))) .nil) []) C55_16) (.seq (.reg (.o 52 (.bin .eql (.t 3) (.c (.int .u8 35))) (.o 51 (.mov (.t 52)) .nil)) []) C55_22)
def C55_24 : AC := .cond (.t 42) (.seq (.reg (.o 2 (.mov (.c (.int .i64 19))) .nil) []) C55_15) (.seq (.reg (.o 50 (.bin .eql (.t 3) (.c (.int .u8 33))) (.o 49 (.mov (.t 50)) .nil)) []) C55_23)
def C55_25 : AC := .kil (0 :: 1 :: 2 :: rg 4 38 (rg 43 13 [])) (.pt C55_24)
def C55_26 : AC := .cond (.t 42) .skip (.reg (.o 48 (.bin .eql (.t 3) (.c (.int .u8 32))) (.o 42 (.mov (.t 48)) .nil)) [])
def C55_27 : AC := .cond (.t 42) .skip (.seq (.reg (.o 47 (.bin .eql (.t 3) (.c (.int .u8 31))) (.o 42 (.mov (.t 47)) .nil)) []) C55_26)
def C55_28 : AC := .cond (.t 42) .skip (.seq (.reg (.o 46 (.bin .eql (.t 3) (.c (.int .u8 30))) (.o 42 (.mov (.t 46)) .nil)) []) C55_27)
def C55_29 : AC := .cond (.t 42) .skip (.seq (.reg (.o 45 (.bin .eql (.t 3) (.c (.int .u8 29))) (.o 42 (.mov (.t 45)) .nil)) []) C55_28)
def C55_30 : AC := .cond (.t 42) .skip (.seq (.reg (.o 44 (.bin .eql (.t 3) (.c (.int .u8 28))) (.o 42 (.mov (.t 44)) .nil)) []) C55_29)
def C55_31 : AC := .seq (.seq (.reg (.o 43 (.bin .eql (.t 3) (.c (.int .u8 27))) (.o 42 (.mov (.t 43)) .nil)) []) C55_30) C55_25
def C55_32 : AC := .cond (.t 37) (.seq (.reg (.o 2 (.mov (.c (.int .i64 49))) .nil) []) C55_14) (.kil (0 :: 1 :: 2 :: rg 4 52 []) (.pt C55_31))
def C55_33 : AC := .kil (0 :: 1 :: 2 :: rg 4 33 (rg 38 18 [])) (.pt C55_32)
def C55_34 : AC := .cond (.t 37) .skip (.reg (.o 41 (.bin .eql (.t 3) (.c (.int .u8 26))) (.o 37 (.mov (.t 41)) .nil)) [])
def C55_35 : AC := .cond (.t 37) .skip (.seq (.reg (.o 40 (.bin .eql (.t 3) (.c (.int .u8 25))) (.o 37 (.mov (.t 40)) .nil)) []) C55_34)
def C55_36 : AC := .cond (.t 37) .skip (.seq (.reg (.o 39 (.bin .eql (.t 3) (.c (.int .u8 24))) (.o 37 (.mov (.t 39)) .nil)) []) C55_35)
def C55_37 : AC := .seq (.seq (.reg (.o 38 (.bin .eql (.t 3) (.c (.int .u8 23))) (.o 37 (.mov (.t 38)) .nil)) []) C55_36) C55_33
def C55_38 : AC := .cond (.t 35) (.seq (.reg (.o 2 (.mov (.c (.int .i64 16))) .nil) []) C55_13) (.kil (0 :: 1 :: 2 :: rg 4 52 []) (.pt C55_37))
def C55_39 : AC := .cond (.t 33) (.seq (.reg (.o 2 (.mov (.c (.int .i64 1033))) .nil) []) C55_12) (.seq (.reg (.o 36 (.bin .eql (.t 3) (.c (.int .u8 22))) (.o 35 (.mov (.t 36)) .nil)) []) C55_38)
def C55_40 : AC := .cond (.t 31) (.seq (.reg (.o 2 (.mov (.c (.int .i64 10))) .nil) []) C55_11) (.seq (.reg (.o 34 (.bin .eql (.t 3) (.c (.int .u8 21))) (.o 33 (.mov (.t 34)) .nil)) []) C55_39)
def C55_41 : AC := .cond (.t 29) (.seq (.reg (.o 2 (.mov (.c (.int .i64 135))) .nil) []) C55_10) (.seq (.reg (.o 32 (.bin .eql (.t 3) (.c (.int .u8 20))) (.o 31 (.mov (.t 32)) .nil)) []) C55_40)
def C55_42 : AC := .cond (.t 27) (.seq (.reg (.o 2 (.mov (.c (.int .i64 1159))) .nil) []) C55_9) (.seq (.reg (.o 30 (.bin .eql (.t 3) (.c (.int .u8 19))) (.o 29 (.mov (.t 30)) .nil)) []) C55_41)
def C55_43 : AC := .cond (.t 22) (.seq (.reg (.o 2 (.mov (.c (.int .i64 1025))) .nil) []) C55_8) (.seq (.reg (.o 28 (.bin .eql (.t 3) (.c (.int .u8 18))) (.o 27 (.mov (.t 28)) .nil)) []) C55_42)
def C55_44 : AC := .kil (0 :: 1 :: 2 :: rg 4 18 (rg 23 33 [])) (.pt C55_43)
def C55_45 : AC := .cond (.t 22) .skip (.reg (.o 26 (.bin .eql (.t 3) (.c (.int .u8 17))) (.o 22 (.mov (.t 26)) .nil)) [])
def C55_46 : AC := .cond (.t 22) .skip (.seq (.reg (.o 25 (.bin .eql (.t 3) (.c (.int .u8 16))) (.o 22 (.mov (.t 25)) .nil)) []) C55_45)
def C55_47 : AC := .cond (.t 22) .skip (.seq (.reg (.o 24 (.bin .eql (.t 3) (.c (.int .u8 15))) (.o 22 (.mov (.t 24)) .nil)) []) C55_46)
def C55_48 : AC := .seq (.seq (.reg (.o 23 (.bin .eql (.t 3) (.c (.int .u8 14))) (.o 22 (.mov (.t 23)) .nil)) []) C55_47) C55_44
def C55_49 : AC := .cond (.t 19) (.seq (.reg (.o 2 (.mov (.c (.int .i64 65))) .nil) []) C55_7) (.kil (0 :: 1 :: 2 :: rg 4 52 []) (.pt C55_48))
def C55_50 : AC := .kil (0 :: 1 :: 2 :: rg 4 15 (rg 20 36 [])) (.pt C55_49)
def C55_51 : AC := .cond (.t 19) .skip (.reg (.o 21 (.bin .eql (.t 3) (.c (.int .u8 13))) (.o 19 (.mov (.t 21)) .nil)) [])
def C55_52 : AC := .seq (.seq (.reg (.o 20 (.bin .eql (.t 3) (.c (.int .u8 12))) (.o 19 (.mov (.t 20)) .nil)) []) C55_51) C55_50
def C55_53 : AC := .cond (.t 12) (.seq (.reg (.o 2 (.mov (.c (.int .i64 3))) .nil) []) C55_6) (.kil (0 :: 1 :: 2 :: rg 4 52 []) (.pt C55_52))
def C55_54 : AC := .kil (0 :: 1 :: 2 :: rg 4 8 (rg 13 43 [])) (.pt C55_53)
def C55_55 : AC := .cond (.t 12) .skip (.reg (.o 18 (.bin .eql (.t 3) (.c (.int .u8 11))) (.o 12 (.mov (.t 18)) .nil)) [])
def C55_56 : AC := .cond (.t 12) .skip (.seq (.reg (.o 17 (.bin .eql (.t 3) (.c (.int .u8 10))) (.o 12 (.mov (.t 17)) .nil)) []) C55_55)
def C55_57 : AC := .cond (.t 12) .skip (.seq (.reg (.o 16 (.bin .eql (.t 3) (.c (.int .u8 9))) (.o 12 (.mov (.t 16)) .nil)) []) C55_56)
def C55_58 : AC := .cond (.t 12) .skip (.seq (.reg (.o 15 (.bin .eql (.t 3) (.c (.int .u8 7))) (.o 12 (.mov (.t 15)) .nil)) []) C55_57)
def C55_59 : AC := .cond (.t 12) .skip (.seq (.reg (.o 14 (.bin .eql (.t 3) (.c (.int .u8 5))) (.o 12 (.mov (.t 14)) .nil)) []) C55_58)
def C55_60 : AC := .seq (.seq (.reg (.o 13 (.bin .eql (.t 3) (.c (.int .u8 4))) (.o 12 (.mov (.t 13)) .nil)) []) C55_59) C55_54
def C55_61 : AC := .cond (.t 8) (.seq (.reg (.o 2 (.mov (.c (.int .i64 33))) .nil) []) C55_5) (.kil (0 :: 1 :: 2 :: rg 4 52 []) (.pt C55_60))
def C55_62 : AC := .kil (0 :: 1 :: 2 :: 4 :: 5 :: 6 :: 7 :: rg 9 47 []) (.pt C55_61)
def C55_63 : AC := .cond (.t 8) .skip (.reg (.o 11 (.bin .eql (.t 3) (.c (.int .u8 8))) (.o 8 (.mov (.t 11)) .nil)) [])
def C55_64 : AC := .cond (.t 8) .skip (.seq (.reg (.o 10 (.bin .eql (.t 3) (.c (.int .u8 6))) (.o 8 (.mov (.t 10)) .nil)) []) C55_63)
def C55_65 : AC := .seq (.seq (.reg (.o 9 (.bin .eql (.t 3) (.c (.int .u8 3))) (.o 8 (.mov (.t 9)) .nil)) []) C55_64) C55_62
def C55_66 : AC := .cond (.t 6) (.seq (.reg (.o 2 (.mov (.c (.int .i64 1027))) .nil) []) C55_4) (.kil (0 :: 1 :: 2 :: rg 4 52 []) (.pt C55_65))
def C55_67 : AC := .cond (.t 4) (.seq (.reg (.o 2 (.mov (.c (.int .i64 1057))) .nil) []) C55_3) (.seq (.reg (.o 7 (.bin .eql (.t 3) (.c (.int .u8 2))) (.o 6 (.mov (.t 7)) .nil)) []) C55_66)
def C55_68 : AC := .block 0 (.seq (.reg (.o 5 (.bin .eql (.t 3) (.c (.int .u8 1))) (.o 4 (.mov (.t 5)) .nil)) []) C55_67)
def C55_69 : AC := .seq (.seq (.reg (.o 3 (.mov (.t 0)) .nil) []) C55_68) C55_2
def C55_70 : AC := .seq (.reg (.o 2 (.mov (.c (.int .i64 0))) .nil) []) C55_69
def F55 : AFunc := { ntmps := 56, results := [.tmp 2], body := C55_70 }
def p55_0 (x0_1 : Int) (M : Mem) : Rs := run false call meth F55.results [.code C55_70] (some (.int .u8 x0_1) :: nn 55 []) M
def p55_1 (x3_101 : Int) (M : Mem) : Rs := run false call meth F55.results [.code C55_65, .inBlock 0, .code C55_2] (none :: none :: none :: some (.int .u8 x3_101) :: nn 52 []) M
def p55_2 (x3_201 : Int) (x8_202 : Bool) (M : Mem) : Rs := run false call meth F55.results [.code C55_61, .inBlock 0, .code C55_2] (none :: none :: none :: some (.int .u8 x3_201) :: nn 4 (some (.bool x8_202) :: nn 47 [])) M
def p55_3 (x3_301 : Int) (M : Mem) : Rs := run false call meth F55.results [.code C55_60, .inBlock 0, .code C55_2] (none :: none :: none :: some (.int .u8 x3_301) :: nn 52 []) M
def p55_4 (x3_401 : Int) (x12_402 : Bool) (M : Mem) : Rs := run false call meth F55.results [.code C55_53, .inBlock 0, .code C55_2] (none :: none :: none :: some (.int .u8 x3_401) :: nn 8 (some (.bool x12_402) :: nn 43 [])) M
def p55_5 (x3_501 : Int) (M : Mem) : Rs := run false call meth F55.results [.code C55_52, .inBlock 0, .code C55_2] (none :: none :: none :: some (.int .u8 x3_501) :: nn 52 []) M
def p55_6 (x3_601 : Int) (x19_602 : Bool) (M : Mem) : Rs := run false call meth F55.results [.code C55_49, .inBlock 0, .code C55_2] (none :: none :: none :: some (.int .u8 x3_601) :: nn 15 (some (.bool x19_602) :: nn 36 [])) M
def p55_7 (x3_701 : Int) (M : Mem) : Rs := run false call meth F55.results [.code C55_48, .inBlock 0, .code C55_2] (none :: none :: none :: some (.int .u8 x3_701) :: nn 52 []) M
def p55_8 (x3_801 : Int) (x22_802 : Bool) (M : Mem) : Rs := run false call meth F55.results [.code C55_43, .inBlock 0, .code C55_2] (none :: none :: none :: some (.int .u8 x3_801) :: nn 18 (some (.bool x22_802) :: nn 33 [])) M
def p55_9 (x3_901 : Int) (M : Mem) : Rs := run false call meth F55.results [.code C55_37, .inBlock 0, .code C55_2] (none :: none :: none :: some (.int .u8 x3_901) :: nn 52 []) M
def p55_10 (x3_1001 : Int) (x37_1002 : Bool) (M : Mem) : Rs := run false call meth F55.results [.code C55_32, .inBlock 0, .code C55_2] (none :: none :: none :: some (.int .u8 x3_1001) :: nn 33 (some (.bool x37_1002) :: nn 18 [])) M
def p55_11 (x3_1101 : Int) (M : Mem) : Rs := run false call meth F55.results [.code C55_31, .inBlock 0, .code C55_2] (none :: none :: none :: some (.int .u8 x3_1101) :: nn 52 []) M
def p55_12 (x3_1201 : Int) (x42_1202 : Bool) (M : Mem) : Rs := run false call meth F55.results [.code C55_24, .inBlock 0, .code C55_2] (none :: none :: none :: some (.int .u8 x3_1201) :: nn 38 (some (.bool x42_1202) :: nn 13 [])) M
def p55_13 (x53_1301 : Bool) (M : Mem) : Rs := run false call meth F55.results [.code C55_19, .inBlock 0, .code C55_2] (nn 53 (some (.bool x53_1301) :: none :: none :: [])) M
theorem p55_0_eq (x0_1 : Int) (M : Mem) : p55_0 call meth x0_1 M = (cond (x0_1 == 1) (some (.int .i64 1057, M)) (cond (x0_1 == 2) (some (.int .i64 1027, M)) (p55_1 call meth x0_1 M))) :=
  (seg_run false call meth F55.results 100000 [.code C55_70] _ M).symm.trans (by kernel_rfl)
theorem p55_1_eq (x3_101 : Int) (M : Mem) : p55_1 call meth x3_101 M = (cond (x3_101 == 3) (p55_2 call meth x3_101 (x3_101 == 3) M) (cond (x3_101 == 6) (p55_2 call meth x3_101 (x3_101 == 6) M) (p55_2 call meth x3_101 (x3_101 == 8) M))) :=
  (seg_run false call meth F55.results 100000 [.code C55_65, .inBlock 0, .code C55_2] _ M).symm.trans (by kernel_rfl)
theorem p55_2_eq (x3_201 : Int) (x8_202 : Bool) (M : Mem) : p55_2 call meth x3_201 x8_202 M = (cond x8_202 (some (.int .i64 33, M)) (p55_3 call meth x3_201 M)) :=
  (seg_run false call meth F55.results 100000 [.code C55_61, .inBlock 0, .code C55_2] _ M).symm.trans (by kernel_rfl)
theorem p55_3_eq (x3_301 : Int) (M : Mem) : p55_3 call meth x3_301 M = (cond (x3_301 == 4) (p55_4 call meth x3_301 (x3_301 == 4) M) (cond (x3_301 == 5) (p55_4 call meth x3_301 (x3_301 == 5) M) (cond (x3_301 == 7) (p55_4 call meth x3_301 (x3_301 == 7) M) (cond (x3_301 == 9) (p55_4 call meth x3_301 (x3_301 == 9) M) (cond (x3_301 == 10) (p55_4 call meth x3_301 (x3_301 == 10) M) (p55_4 call meth x3_301 (x3_301 == 11) M)))))) :=
  (seg_run false call meth F55.results 100000 [.code C55_60, .inBlock 0, .code C55_2] _ M).symm.trans (by kernel_rfl)
theorem p55_4_eq (x3_401 : Int) (x12_402 : Bool) (M : Mem) : p55_4 call meth x3_401 x12_402 M = (cond x12_402 (some (.int .i64 3, M)) (p55_5 call meth x3_401 M)) :=
  (seg_run false call meth F55.results 100000 [.code C55_53, .inBlock 0, .code C55_2] _ M).symm.trans (by kernel_rfl)
theorem p55_5_eq (x3_501 : Int) (M : Mem) : p55_5 call meth x3_501 M = (cond (x3_501 == 12) (p55_6 call meth x3_501 (x3_501 == 12) M) (p55_6 call meth x3_501 (x3_501 == 13) M)) :=
  (seg_run false call meth F55.results 100000 [.code C55_52, .inBlock 0, .code C55_2] _ M).symm.trans (by kernel_rfl)
theorem p55_6_eq (x3_601 : Int) (x19_602 : Bool) (M : Mem) : p55_6 call meth x3_601 x19_602 M = (cond x19_602 (some (.int .i64 65, M)) (p55_7 call meth x3_601 M)) :=
  (seg_run false call meth F55.results 100000 [.code C55_49, .inBlock 0, .code C55_2] _ M).symm.trans (by kernel_rfl)
theorem p55_7_eq (x3_701 : Int) (M : Mem) : p55_7 call meth x3_701 M = (cond (x3_701 == 14) (p55_8 call meth x3_701 (x3_701 == 14) M) (cond (x3_701 == 15) (p55_8 call meth x3_701 (x3_701 == 15) M) (cond (x3_701 == 16) (p55_8 call meth x3_701 (x3_701 == 16) M) (p55_8 call meth x3_701 (x3_701 == 17) M)))) :=
  (seg_run false call meth F55.results 100000 [.code C55_48, .inBlock 0, .code C55_2] _ M).symm.trans (by kernel_rfl)
theorem p55_8_eq (x3_801 : Int) (x22_802 : Bool) (M : Mem) : p55_8 call meth x3_801 x22_802 M = (cond x22_802 (some (.int .i64 1025, M)) (cond (x3_801 == 18) (some (.int .i64 1159, M)) (cond (x3_801 == 19) (some (.int .i64 135, M)) (cond (x3_801 == 20) (some (.int .i64 10, M)) (cond (x3_801 == 21) (some (.int .i64 1033, M)) (cond (x3_801 == 22) (some (.int .i64 16, M)) (p55_9 call meth x3_801 M))))))) :=
  (seg_run false call meth F55.results 100000 [.code C55_43, .inBlock 0, .code C55_2] _ M).symm.trans (by kernel_rfl)
theorem p55_9_eq (x3_901 : Int) (M : Mem) : p55_9 call meth x3_901 M = (cond (x3_901 == 23) (p55_10 call meth x3_901 (x3_901 == 23) M) (cond (x3_901 == 24) (p55_10 call meth x3_901 (x3_901 == 24) M) (cond (x3_901 == 25) (p55_10 call meth x3_901 (x3_901 == 25) M) (p55_10 call meth x3_901 (x3_901 == 26) M)))) :=
  (seg_run false call meth F55.results 100000 [.code C55_37, .inBlock 0, .code C55_2] _ M).symm.trans (by kernel_rfl)
theorem p55_10_eq (x3_1001 : Int) (x37_1002 : Bool) (M : Mem) : p55_10 call meth x3_1001 x37_1002 M = (cond x37_1002 (some (.int .i64 49, M)) (p55_11 call meth x3_1001 M)) :=
  (seg_run false call meth F55.results 100000 [.code C55_32, .inBlock 0, .code C55_2] _ M).symm.trans (by kernel_rfl)
theorem p55_11_eq (x3_1101 : Int) (M : Mem) : p55_11 call meth x3_1101 M = (cond (x3_1101 == 27) (p55_12 call meth x3_1101 (x3_1101 == 27) M) (cond (x3_1101 == 28) (p55_12 call meth x3_1101 (x3_1101 == 28) M) (cond (x3_1101 == 29) (p55_12 call meth x3_1101 (x3_1101 == 29) M) (cond (x3_1101 == 30) (p55_12 call meth x3_1101 (x3_1101 == 30) M) (cond (x3_1101 == 31) (p55_12 call meth x3_1101 (x3_1101 == 31) M) (p55_12 call meth x3_1101 (x3_1101 == 32) M)))))) :=
  (seg_run false call meth F55.results 100000 [.code C55_31, .inBlock 0, .code C55_2] _ M).symm.trans (by kernel_rfl)
theorem p55_12_eq (x3_1201 : Int) (x42_1202 : Bool) (M : Mem) : p55_12 call meth x3_1201 x42_1202 M = (cond x42_1202 (some (.int .i64 19, M)) (cond (x3_1201 == 33) (some (.int .i64 256, M)) (cond (x3_1201 == 35) (some (.int .i64 512, M)) (cond (x3_1201 == 34) (p55_13 call meth (x3_1201 == 34) M) (p55_13 call meth (x3_1201 == 36) M))))) :=
  (seg_run false call meth F55.results 100000 [.code C55_24, .inBlock 0, .code C55_2] _ M).symm.trans (by kernel_rfl)
theorem p55_13_eq (x53_1301 : Bool) (M : Mem) : p55_13 call meth x53_1301 M = (cond x53_1301 (some (.int .i64 0, M)) (some (.int .i64 2048, M))) :=
  (seg_run false call meth F55.results 100000 [.code C55_19, .inBlock 0, .code C55_2] _ M).symm.trans (by kernel_rfl)
theorem run55 (x0_1 : Int) (M : Mem) : run false call meth F55.results [.code F55.body] (frame0 F55 [.int .u8 x0_1]) M = p55_0 call meth x0_1 M := by kernel_rfl
theorem ok55 : okFn Try.prog 55 F55 = true := by kernel_rfl
def C56_1 : AC := .ret
def C56_2 : AC := .seq (.reg (.o 21 (.mov (.t 1)) (.o 22 (.bin .eql (.t 21) (.c (.int .i64 0))) (.o 4 (.mov (.t 22)) .nil))) []) C56_1
def C56_3 : AC := .ret
def C56_4 : AC := .ret
def C56_5 : AC := .ret
def C56_6 : AC := .cond (.t 15) (.seq (.reg (.o 19 (.mov (.t 1)) (.o 20 (.callP 85 [(.t 19), (.c (.int .i64 0)), (.c (.int .i64 255))] (.r (.one .bool))) (.o 4 (.mov (.t 20)) .nil))) []) C56_5) .skip
def C56_7 : AC := .cond (.t 9) (.seq (.reg (.o 13 (.mov (.t 1)) (.o 14 (.callP 85 [(.t 13), (.c (.int .i64 0)), (.c (.int .i64 7))] (.r (.one .bool))) (.o 4 (.mov (.t 14)) .nil))) []) C56_4) (.seq (.reg (.o 16 (.mov (.t 0)) (.o 17 (.bin .and (.t 16) (.c (.int .i64 16))) (.o 18 (.bin .neq (.t 17) (.c (.int .i64 0))) (.o 15 (.mov (.t 18)) .nil)))) []) C56_6)
def C56_8 : AC := .cond (.t 5) (.seq (.reg (.o 4 (.mov (.c (.bool true))) .nil) []) C56_3) (.seq (.reg (.o 10 (.mov (.t 0)) (.o 11 (.bin .and (.t 10) (.c (.int .i64 8))) (.o 12 (.bin .neq (.t 11) (.c (.int .i64 0))) (.o 9 (.mov (.t 12)) .nil)))) []) C56_7)
def C56_9 : AC := .seq (.block 0 (.seq (.reg (.o 6 (.mov (.t 0)) (.o 7 (.bin .and (.t 6) (.c (.int .i64 4))) (.o 8 (.bin .neq (.t 7) (.c (.int .i64 0))) (.o 5 (.mov (.t 8)) .nil)))) []) C56_8)) C56_2
def C56_10 : AC := .seq (.reg (.o 4 (.mov (.c (.bool false))) .nil) []) C56_9
def F56 : AFunc := { ntmps := 23, results := [.tmp 4], body := C56_10 }
def p56_0 (x0_1 : Int) (x1_2 : Int) (M : Mem) : Rs := run false call meth F56.results [.code C56_10] (some (.int .i64 x0_1) :: some (.int .i64 x1_2) :: nn 21 []) M
theorem p56_0_eq (x0_1 : Int) (x1_2 : Int) (M : Mem) : p56_0 call meth x0_1 x1_2 M = (cond ((IntKind.wrap .i64 ((BitVec.ofInt (IntKind.bits .i64) x0_1 &&& BitVec.ofInt (IntKind.bits .i64) 4).toNat)) != 0) (some (.bool true, M)) (cond ((IntKind.wrap .i64 ((BitVec.ofInt (IntKind.bits .i64) x0_1 &&& BitVec.ofInt (IntKind.bits .i64) 8).toNat)) != 0) (Option.bind (call 85 [.int .i64 x1_2, .int .i64 0, .int .i64 7] Mem.empty) fun r101 => (Option.bind (r101.1.bool?) fun x102 => (some (.bool x102, M)))) (cond ((IntKind.wrap .i64 ((BitVec.ofInt (IntKind.bits .i64) x0_1 &&& BitVec.ofInt (IntKind.bits .i64) 16).toNat)) != 0) (Option.bind (call 85 [.int .i64 x1_2, .int .i64 0, .int .i64 255] Mem.empty) fun r103 => (Option.bind (r103.1.bool?) fun x104 => (some (.bool x104, M)))) (some (.bool (x1_2 == 0), M))))) :=
  (seg_run false call meth F56.results 100000 [.code C56_10] _ M).symm.trans (by kernel_rfl)
theorem run56 (x0_1 : Int) (x1_2 : Int) (M : Mem) : run false call meth F56.results [.code F56.body] (frame0 F56 [.int .i64 x0_1, .int .i64 x1_2]) M = p56_0 call meth x0_1 x1_2 M := by kernel_rfl
theorem ok56 : okFn Try.prog 56 F56 = true := by kernel_rfl
def C57_1 : AC := .ret
def C57_2 : AC := .seq (.reg (.o 42 (.mov (.t 1)) (.o 43 (.bin .eql (.t 42) (.c (.int .i64 0))) (.o 4 (.mov (.t 43)) .nil))) []) C57_1
def C57_3 : AC := .ret
def C57_4 : AC := .ret
def C57_5 : AC := .ret
def C57_6 : AC := .ret
def C57_7 : AC := .ret
def C57_8 : AC := .cond (.t 34) (.seq (.reg (.o 38 (.mov (.t 1)) (.o 39 (.convI .i32 (.t 38)) (.o 40 (.callP 58 [(.t 39)] (.r (.one (.int .i64)))) (.o 41 (.bin .gtr (.t 40) (.c (.int .i64 0))) (.o 4 (.mov (.t 41)) .nil))))) []) C57_7) .skip
def C57_9 : AC := .cond (.t 28) (.seq (.reg (.o 32 (.mov (.t 1)) (.o 33 (.callP 85 [(.t 32), (.c (.int .i64 1)), (.c (.int .i64 16))] (.r (.one .bool))) (.o 4 (.mov (.t 33)) .nil))) []) C57_6) (.seq (.reg (.o 35 (.mov (.t 0)) (.o 36 (.bin .and (.t 35) (.c (.int .i64 512))) (.o 37 (.bin .neq (.t 36) (.c (.int .i64 0))) (.o 34 (.mov (.t 37)) .nil)))) []) C57_8)
def C57_10 : AC := .cond (.t 15) (.seq (.reg (.o 19 (.mov (.t 1)) (.o 20 (.callP 85 [(.t 19), (.c (.int .i64 1)), (.c (.int .i64 8))] (.r (.one .bool))) (.o 21 (.mov (.t 20)) (.grp 21 true (.o 22 (.mov (.t 1)) (.o 23 (.mov (.t 1)) (.o 24 (.bin .sub (.t 23) (.c (.int .i64 1))) (.o 25 (.bin .and (.t 22) (.t 24)) (.o 26 (.bin .eql (.t 25) (.c (.int .i64 0))) .nil))))) (.o 27 (.pick (.t 21) (.t 26) (.c (.bool false))) (.o 4 (.mov (.t 27)) .nil)))))) []) C57_5) (.seq (.reg (.o 29 (.mov (.t 0)) (.o 30 (.bin .and (.t 29) (.c (.int .i64 256))) (.o 31 (.bin .neq (.t 30) (.c (.int .i64 0))) (.o 28 (.mov (.t 31)) .nil)))) []) C57_9)
def C57_11 : AC := .seq (.reg (.o 16 (.mov (.t 0)) (.o 17 (.bin .and (.t 16) (.c (.int .i64 128))) (.o 18 (.bin .neq (.t 17) (.c (.int .i64 0))) (.o 15 (.mov (.t 18)) .nil)))) []) C57_10
def C57_12 : AC := .cond (.t 9) (.seq (.reg (.o 13 (.mov (.t 1)) (.o 14 (.callP 85 [(.t 13), (.c (.int .i64 0)), (.c (.int .i64 63))] (.r (.one .bool))) (.o 4 (.mov (.t 14)) .nil))) []) C57_4) (.kil (rg 2 42 []) (.pt C57_11))
def C57_13 : AC := .seq (.reg (.o 10 (.mov (.t 0)) (.o 11 (.bin .and (.t 10) (.c (.int .i64 64))) (.o 12 (.bin .neq (.t 11) (.c (.int .i64 0))) (.o 9 (.mov (.t 12)) .nil)))) []) C57_12
def C57_14 : AC := .cond (.t 5) (.seq (.reg (.o 4 (.mov (.c (.bool true))) .nil) []) C57_3) (.kil (rg 2 42 []) (.pt C57_13))
def C57_15 : AC := .seq (.block 0 (.seq (.reg (.o 6 (.mov (.t 0)) (.o 7 (.bin .and (.t 6) (.c (.int .i64 32))) (.o 8 (.bin .neq (.t 7) (.c (.int .i64 0))) (.o 5 (.mov (.t 8)) .nil)))) []) C57_14)) C57_2
def C57_16 : AC := .seq (.reg (.o 4 (.mov (.c (.bool false))) .nil) []) C57_15
def F57 : AFunc := { ntmps := 44, results := [.tmp 4], body := C57_16 }
def p57_0 (x0_1 : Int) (x1_2 : Int) (M : Mem) : Rs := run false call meth F57.results [.code C57_16] (some (.int .i64 x0_1) :: some (.int .i64 x1_2) :: nn 42 []) M
def p57_1 (x0_101 : Int) (x1_102 : Int) (M : Mem) : Rs := run false call meth F57.results [.code C57_13, .inBlock 0, .code C57_2] (some (.int .i64 x0_101) :: some (.int .i64 x1_102) :: nn 42 []) M
def p57_2 (x0_203 : Int) (x1_204 : Int) (M : Mem) : Rs := run false call meth F57.results [.code C57_11, .inBlock 0, .code C57_2] (some (.int .i64 x0_203) :: some (.int .i64 x1_204) :: nn 42 []) M
theorem p57_0_eq (x0_1 : Int) (x1_2 : Int) (M : Mem) : p57_0 call meth x0_1 x1_2 M = (cond ((IntKind.wrap .i64 ((BitVec.ofInt (IntKind.bits .i64) x0_1 &&& BitVec.ofInt (IntKind.bits .i64) 32).toNat)) != 0) (some (.bool true, M)) (p57_1 call meth x0_1 x1_2 M)) :=
  (seg_run false call meth F57.results 100000 [.code C57_16] _ M).symm.trans (by kernel_rfl)
theorem p57_1_eq (x0_101 : Int) (x1_102 : Int) (M : Mem) : p57_1 call meth x0_101 x1_102 M = (cond ((IntKind.wrap .i64 ((BitVec.ofInt (IntKind.bits .i64) x0_101 &&& BitVec.ofInt (IntKind.bits .i64) 64).toNat)) != 0) (Option.bind (call 85 [.int .i64 x1_102, .int .i64 0, .int .i64 63] Mem.empty) fun r201 => (Option.bind (r201.1.bool?) fun x202 => (some (.bool x202, M)))) (p57_2 call meth x0_101 x1_102 M)) :=
  (seg_run false call meth F57.results 100000 [.code C57_13, .inBlock 0, .code C57_2] _ M).symm.trans (by kernel_rfl)
theorem p57_2_eq (x0_203 : Int) (x1_204 : Int) (M : Mem) : p57_2 call meth x0_203 x1_204 M = (cond ((IntKind.wrap .i64 ((BitVec.ofInt (IntKind.bits .i64) x0_203 &&& BitVec.ofInt (IntKind.bits .i64) 128).toNat)) != 0) (Option.bind (call 85 [.int .i64 x1_204, .int .i64 1, .int .i64 8] Mem.empty) fun r301 => (Option.bind (r301.1.bool?) fun x302 => (cond x302 (some (.bool ((IntKind.wrap .i64 ((BitVec.ofInt (IntKind.bits .i64) x1_204 &&& BitVec.ofInt (IntKind.bits .i64) (IntKind.wrap .i64 (x1_204 - 1))).toNat)) == 0), M)) (some (.bool false, M))))) (cond ((IntKind.wrap .i64 ((BitVec.ofInt (IntKind.bits .i64) x0_203 &&& BitVec.ofInt (IntKind.bits .i64) 256).toNat)) != 0) (Option.bind (call 85 [.int .i64 x1_204, .int .i64 1, .int .i64 16] Mem.empty) fun r303 => (Option.bind (r303.1.bool?) fun x304 => (some (.bool x304, M)))) (cond ((IntKind.wrap .i64 ((BitVec.ofInt (IntKind.bits .i64) x0_203 &&& BitVec.ofInt (IntKind.bits .i64) 512).toNat)) != 0) (Option.bind (call 58 [.int .i32 (IntKind.wrap .i32 x1_204)] Mem.empty) fun r305 => (Option.bind (r305.1.int? .i64) fun x306 => (some (.bool (decide (x306 > 0)), M)))) (some (.bool (x1_204 == 0), M))))) :=
  (seg_run false call meth F57.results 100000 [.code C57_11, .inBlock 0, .code C57_2] _ M).symm.trans (by kernel_rfl)
theorem run57 (x0_1 : Int) (x1_2 : Int) (M : Mem) : run false call meth F57.results [.code F57.body] (frame0 F57 [.int .i64 x0_1, .int .i64 x1_2]) M = p57_0 call meth x0_1 x1_2 M := by kernel_rfl
theorem ok57 : okFn Try.prog 57 F57 = true := by kernel_rfl
def C58_1 : AC := .ret
def C58_2 : AC := .seq (.reg (.o 2 (.mov (.c (.int .i64 0))) .nil) []) C58_1
def C58_3 : AC := .ret
def C58_4 : AC := .ret
def C58_5 : AC := .ret
def C58_6 : AC := .cond (.t 19) (.seq (.reg (.o 2 (.mov (.c (.int .i64 1))) .nil) []) C58_5) .skip
def C58_7 : AC := .cond (.t 8) (.seq (.reg (.o 2 (.mov (.c (.int .i64 3))) .nil) []) C58_4) (.seq (.reg (.o 20 (.mov (.t 0)) (.o 21 (.bin .geq (.t 20) (.c (.int .i32 3))) (.o 22 (.mov (.t 21)) (.grp 22 true (.o 23 (.mov (.t 0)) (.o 24 (.bin .leq (.t 23) (.c (.int .i32 7))) .nil)) (.o 25 (.pick (.t 22) (.t 24) (.c (.bool false))) (.o 19 (.mov (.t 25)) .nil)))))) []) C58_6)
def C58_8 : AC := .kil (rg 1 7 (rg 9 17 [])) (.pt C58_7)
def C58_9 : AC := .cond (.t 8) .skip (.reg (.o 13 (.mov (.t 0)) (.o 14 (.bin .geq (.t 13) (.c (.int .i32 16))) (.o 15 (.mov (.t 14)) (.grp 15 true (.o 16 (.mov (.t 0)) (.o 17 (.bin .lss (.t 16) (.c (.int .i32 24))) .nil)) (.o 18 (.pick (.t 15) (.t 17) (.c (.bool false))) (.o 8 (.mov (.t 18)) .nil)))))) [])
def C58_10 : AC := .cond (.t 8) .skip (.seq (.reg (.o 11 (.mov (.t 0)) (.o 12 (.bin .eql (.t 11) (.c (.int .i32 5))) (.o 8 (.mov (.t 12)) .nil))) []) C58_9)
def C58_11 : AC := .seq (.seq (.reg (.o 9 (.mov (.t 0)) (.o 10 (.bin .eql (.t 9) (.c (.int .i32 2))) (.o 8 (.mov (.t 10)) .nil))) []) C58_10) C58_8
def C58_12 : AC := .cond (.t 3) (.seq (.reg (.o 2 (.mov (.c (.int .i64 2))) .nil) []) C58_3) (.kil (rg 1 25 []) (.pt C58_11))
def C58_13 : AC := .kil (1 :: 2 :: rg 4 22 []) (.pt C58_12)
def C58_14 : AC := .cond (.t 3) .skip (.reg (.o 6 (.mov (.t 0)) (.o 7 (.bin .eql (.t 6) (.c (.int .i32 8))) (.o 3 (.mov (.t 7)) .nil))) [])
def C58_15 : AC := .seq (.block 0 (.seq (.seq (.reg (.o 4 (.mov (.t 0)) (.o 5 (.bin .eql (.t 4) (.c (.int .i32 1))) (.o 3 (.mov (.t 5)) .nil))) []) C58_14) C58_13)) C58_2
def C58_16 : AC := .seq (.reg (.o 2 (.mov (.c (.int .i64 0))) .nil) []) C58_15
def F58 : AFunc := { ntmps := 26, results := [.tmp 2], body := C58_16 }
def p58_0 (x0_1 : Int) (M : Mem) : Rs := run false call meth F58.results [.code C58_16] (some (.int .i32 x0_1) :: nn 25 []) M
def p58_1 (x0_101 : Int) (x3_102 : Bool) (M : Mem) : Rs := run false call meth F58.results [.code C58_12, .inBlock 0, .code C58_2] (some (.int .i32 x0_101) :: none :: none :: some (.bool x3_102) :: nn 22 []) M
def p58_2 (x0_201 : Int) (M : Mem) : Rs := run false call meth F58.results [.code C58_11, .inBlock 0, .code C58_2] (some (.int .i32 x0_201) :: nn 25 []) M
def p58_3 (x0_301 : Int) (x8_302 : Bool) (M : Mem) : Rs := run false call meth F58.results [.code C58_7, .inBlock 0, .code C58_2] (some (.int .i32 x0_301) :: nn 7 (some (.bool x8_302) :: nn 17 [])) M
theorem p58_0_eq (x0_1 : Int) (M : Mem) : p58_0 call meth x0_1 M = (cond (x0_1 == 1) (p58_1 call meth x0_1 (x0_1 == 1) M) (p58_1 call meth x0_1 (x0_1 == 8) M)) :=
  (seg_run false call meth F58.results 100000 [.code C58_16] _ M).symm.trans (by kernel_rfl)
theorem p58_1_eq (x0_101 : Int) (x3_102 : Bool) (M : Mem) : p58_1 call meth x0_101 x3_102 M = (cond x3_102 (some (.int .i64 2, M)) (p58_2 call meth x0_101 M)) :=
  (seg_run false call meth F58.results 100000 [.code C58_12, .inBlock 0, .code C58_2] _ M).symm.trans (by kernel_rfl)
theorem p58_2_eq (x0_201 : Int) (M : Mem) : p58_2 call meth x0_201 M = (cond (x0_201 == 2) (p58_3 call meth x0_201 (x0_201 == 2) M) (cond (x0_201 == 5) (p58_3 call meth x0_201 (x0_201 == 5) M) (cond (decide (x0_201 ≥ 16)) (p58_3 call meth x0_201 (decide (x0_201 < 24)) M) (p58_3 call meth x0_201 false M)))) :=
  (seg_run false call meth F58.results 100000 [.code C58_11, .inBlock 0, .code C58_2] _ M).symm.trans (by kernel_rfl)
theorem p58_3_eq (x0_301 : Int) (x8_302 : Bool) (M : Mem) : p58_3 call meth x0_301 x8_302 M = (cond x8_302 (some (.int .i64 3, M)) (cond (decide (x0_301 ≥ 3)) (cond (decide (x0_301 ≤ 7)) (some (.int .i64 1, M)) (some (.int .i64 0, M))) (some (.int .i64 0, M)))) :=
  (seg_run false call meth F58.results 100000 [.code C58_7, .inBlock 0, .code C58_2] _ M).symm.trans (by kernel_rfl)
theorem run58 (x0_1 : Int) (M : Mem) : run false call meth F58.results [.code F58.body] (frame0 F58 [.int .i32 x0_1]) M = p58_0 call meth x0_1 M := by kernel_rfl
theorem ok58 : okFn Try.prog 58 F58 = true := by kernel_rfl
def C59_1 : AC := .ret
def C59_2 : AC := .seq (.reg (.o 2 (.mov (.c (.str ⟨#[]⟩))) (.o 3 (.mov (.c (.bool false))) .nil)) []) C59_1
def C59_3 : AC := .ret
def C59_4 : AC := .ret
def C59_5 : AC := .ret
def C59_6 : AC := .ret
def C59_7 : AC := .ret
def C59_8 : AC := .ret
def C59_9 : AC := .ret
def C59_10 : AC := .ret
def C59_11 : AC := .ret
def C59_12 : AC := .ret
def C59_13 : AC := .ret
def C59_14 : AC := .ret
def C59_15 : AC := .ret
def C59_16 : AC := .cond (.t 52) (.seq (.reg (.o 2 (.mov (.c (.str ⟨#[99]⟩))) (.o 3 (.mov (.c (.bool true))) .nil)) []) C59_15) .skip
def C59_17 : AC := .cond (.t 49) (.seq (.reg (.o 2 (.mov (.c (.str ⟨#[]⟩))) (.o 3 (.mov (.c (.bool true))) .nil)) []) C59_14) (.seq (.reg (.o 53 (.bin .eql (.t 4) (.c (.int .u8 35))) (.o 52 (.mov (.t 53)) .nil)) []) C59_16)
def C59_18 : AC := .kil (0 :: 1 :: 2 :: 3 :: rg 5 44 (50 :: 51 :: 52 :: 53 :: [])) (.pt C59_17)
def C59_19 : AC := .cond (.t 49) .skip (.reg (.o 51 (.bin .eql (.t 4) (.c (.int .u8 36))) (.o 49 (.mov (.t 51)) .nil)) [])
def C59_20 : AC := .cond (.t 47) (.seq (.reg (.o 2 (.mov (.c (.str ⟨#[114]⟩))) (.o 3 (.mov (.c (.bool true))) .nil)) []) C59_13) (.seq (.seq (.reg (.o 50 (.bin .eql (.t 4) (.c (.int .u8 34))) (.o 49 (.mov (.t 50)) .nil)) []) C59_19) C59_18)
def C59_21 : AC := .cond (.t 40) (.seq (.reg (.o 2 (.mov (.c (.str ⟨#[100, 115, 106]⟩))) (.o 3 (.mov (.c (.bool true))) .nil)) []) C59_12) (.seq (.reg (.o 48 (.bin .eql (.t 4) (.c (.int .u8 33))) (.o 47 (.mov (.t 48)) .nil)) []) C59_20)
def C59_22 : AC := .kil (0 :: 1 :: 2 :: 3 :: rg 5 35 (rg 41 13 [])) (.pt C59_21)
def C59_23 : AC := .cond (.t 40) .skip (.reg (.o 46 (.bin .eql (.t 4) (.c (.int .u8 32))) (.o 40 (.mov (.t 46)) .nil)) [])
def C59_24 : AC := .cond (.t 40) .skip (.seq (.reg (.o 45 (.bin .eql (.t 4) (.c (.int .u8 31))) (.o 40 (.mov (.t 45)) .nil)) []) C59_23)
def C59_25 : AC := .cond (.t 40) .skip (.seq (.reg (.o 44 (.bin .eql (.t 4) (.c (.int .u8 30))) (.o 40 (.mov (.t 44)) .nil)) []) C59_24)
def C59_26 : AC := .cond (.t 40) .skip (.seq (.reg (.o 43 (.bin .eql (.t 4) (.c (.int .u8 29))) (.o 40 (.mov (.t 43)) .nil)) []) C59_25)
def C59_27 : AC := .cond (.t 40) .skip (.seq (.reg (.o 42 (.bin .eql (.t 4) (.c (.int .u8 28))) (.o 40 (.mov (.t 42)) .nil)) []) C59_26)
def C59_28 : AC := .seq (.seq (.reg (.o 41 (.bin .eql (.t 4) (.c (.int .u8 27))) (.o 40 (.mov (.t 41)) .nil)) []) C59_27) C59_22
def C59_29 : AC := .cond (.t 35) (.seq (.reg (.o 2 (.mov (.c (.str ⟨#[100, 106, 105]⟩))) (.o 3 (.mov (.c (.bool true))) .nil)) []) C59_11) (.kil (0 :: 1 :: 2 :: 3 :: rg 5 49 []) (.pt C59_28))
def C59_30 : AC := .kil (0 :: 1 :: 2 :: 3 :: rg 5 30 (rg 36 18 [])) (.pt C59_29)
def C59_31 : AC := .cond (.t 35) .skip (.reg (.o 39 (.bin .eql (.t 4) (.c (.int .u8 26))) (.o 35 (.mov (.t 39)) .nil)) [])
def C59_32 : AC := .cond (.t 35) .skip (.seq (.reg (.o 38 (.bin .eql (.t 4) (.c (.int .u8 25))) (.o 35 (.mov (.t 38)) .nil)) []) C59_31)
def C59_33 : AC := .cond (.t 35) .skip (.seq (.reg (.o 37 (.bin .eql (.t 4) (.c (.int .u8 24))) (.o 35 (.mov (.t 37)) .nil)) []) C59_32)
def C59_34 : AC := .seq (.seq (.reg (.o 36 (.bin .eql (.t 4) (.c (.int .u8 23))) (.o 35 (.mov (.t 36)) .nil)) []) C59_33) C59_30
def C59_35 : AC := .cond (.t 33) (.seq (.reg (.o 2 (.mov (.c (.str ⟨#[106]⟩))) (.o 3 (.mov (.c (.bool true))) .nil)) []) C59_10) (.kil (0 :: 1 :: 2 :: 3 :: rg 5 49 []) (.pt C59_34))
def C59_36 : AC := .cond (.t 31) (.seq (.reg (.o 2 (.mov (.c (.str ⟨#[100, 112]⟩))) (.o 3 (.mov (.c (.bool true))) .nil)) []) C59_9) (.seq (.reg (.o 34 (.bin .eql (.t 4) (.c (.int .u8 22))) (.o 33 (.mov (.t 34)) .nil)) []) C59_35)
def C59_37 : AC := .cond (.t 29) (.seq (.reg (.o 2 (.mov (.c (.str ⟨#[115, 112]⟩))) (.o 3 (.mov (.c (.bool true))) .nil)) []) C59_8) (.seq (.reg (.o 32 (.bin .eql (.t 4) (.c (.int .u8 21))) (.o 31 (.mov (.t 32)) .nil)) []) C59_36)
def C59_38 : AC := .cond (.t 26) (.seq (.reg (.o 2 (.mov (.c (.str ⟨#[100, 115, 111, 119]⟩))) (.o 3 (.mov (.c (.bool true))) .nil)) []) C59_7) (.seq (.reg (.o 30 (.bin .eql (.t 4) (.c (.int .u8 20))) (.o 29 (.mov (.t 30)) .nil)) []) C59_37)
def C59_39 : AC := .kil (0 :: 1 :: 2 :: 3 :: rg 5 21 (rg 27 27 [])) (.pt C59_38)
def C59_40 : AC := .cond (.t 26) .skip (.reg (.o 28 (.bin .eql (.t 4) (.c (.int .u8 19))) (.o 26 (.mov (.t 28)) .nil)) [])
def C59_41 : AC := .seq (.seq (.reg (.o 27 (.bin .eql (.t 4) (.c (.int .u8 18))) (.o 26 (.mov (.t 27)) .nil)) []) C59_40) C59_39
def C59_42 : AC := .cond (.t 21) (.seq (.reg (.o 2 (.mov (.c (.str ⟨#[100]⟩))) (.o 3 (.mov (.c (.bool true))) .nil)) []) C59_6) (.kil (0 :: 1 :: 2 :: 3 :: rg 5 49 []) (.pt C59_41))
def C59_43 : AC := .kil (0 :: 1 :: 2 :: 3 :: rg 5 16 (rg 22 32 [])) (.pt C59_42)
def C59_44 : AC := .cond (.t 21) .skip (.reg (.o 25 (.bin .eql (.t 4) (.c (.int .u8 17))) (.o 21 (.mov (.t 25)) .nil)) [])
def C59_45 : AC := .cond (.t 21) .skip (.seq (.reg (.o 24 (.bin .eql (.t 4) (.c (.int .u8 16))) (.o 21 (.mov (.t 24)) .nil)) []) C59_44)
def C59_46 : AC := .cond (.t 21) .skip (.seq (.reg (.o 23 (.bin .eql (.t 4) (.c (.int .u8 15))) (.o 21 (.mov (.t 23)) .nil)) []) C59_45)
def C59_47 : AC := .seq (.seq (.reg (.o 22 (.bin .eql (.t 4) (.c (.int .u8 14))) (.o 21 (.mov (.t 22)) .nil)) []) C59_46) C59_43
def C59_48 : AC := .cond (.t 18) (.seq (.reg (.o 2 (.mov (.c (.str ⟨#[100, 98]⟩))) (.o 3 (.mov (.c (.bool true))) .nil)) []) C59_5) (.kil (0 :: 1 :: 2 :: 3 :: rg 5 49 []) (.pt C59_47))
def C59_49 : AC := .kil (0 :: 1 :: 2 :: 3 :: rg 5 13 (rg 19 35 [])) (.pt C59_48)
def C59_50 : AC := .cond (.t 18) .skip (.reg (.o 20 (.bin .eql (.t 4) (.c (.int .u8 13))) (.o 18 (.mov (.t 20)) .nil)) [])
def C59_51 : AC := .seq (.seq (.reg (.o 19 (.bin .eql (.t 4) (.c (.int .u8 12))) (.o 18 (.mov (.t 19)) .nil)) []) C59_50) C59_49
def C59_52 : AC := .cond (.t 10) (.seq (.reg (.o 2 (.mov (.c (.str ⟨#[100, 115]⟩))) (.o 3 (.mov (.c (.bool true))) .nil)) []) C59_4) (.kil (0 :: 1 :: 2 :: 3 :: rg 5 49 []) (.pt C59_51))
def C59_53 : AC := .kil (0 :: 1 :: 2 :: 3 :: rg 5 5 (rg 11 43 [])) (.pt C59_52)
def C59_54 : AC := .cond (.t 10) .skip (.reg (.o 17 (.bin .eql (.t 4) (.c (.int .u8 11))) (.o 10 (.mov (.t 17)) .nil)) [])
def C59_55 : AC := .cond (.t 10) .skip (.seq (.reg (.o 16 (.bin .eql (.t 4) (.c (.int .u8 10))) (.o 10 (.mov (.t 16)) .nil)) []) C59_54)
def C59_56 : AC := .cond (.t 10) .skip (.seq (.reg (.o 15 (.bin .eql (.t 4) (.c (.int .u8 9))) (.o 10 (.mov (.t 15)) .nil)) []) C59_55)
def C59_57 : AC := .cond (.t 10) .skip (.seq (.reg (.o 14 (.bin .eql (.t 4) (.c (.int .u8 7))) (.o 10 (.mov (.t 14)) .nil)) []) C59_56)
def C59_58 : AC := .cond (.t 10) .skip (.seq (.reg (.o 13 (.bin .eql (.t 4) (.c (.int .u8 5))) (.o 10 (.mov (.t 13)) .nil)) []) C59_57)
def C59_59 : AC := .cond (.t 10) .skip (.seq (.reg (.o 12 (.bin .eql (.t 4) (.c (.int .u8 4))) (.o 10 (.mov (.t 12)) .nil)) []) C59_58)
def C59_60 : AC := .seq (.seq (.reg (.o 11 (.bin .eql (.t 4) (.c (.int .u8 2))) (.o 10 (.mov (.t 11)) .nil)) []) C59_59) C59_53
def C59_61 : AC := .cond (.t 5) (.seq (.reg (.o 2 (.mov (.c (.str ⟨#[100, 105]⟩))) (.o 3 (.mov (.c (.bool true))) .nil)) []) C59_3) (.kil (0 :: 1 :: 2 :: 3 :: rg 5 49 []) (.pt C59_60))
def C59_62 : AC := .kil (0 :: 1 :: 2 :: 3 :: rg 6 48 []) (.pt C59_61)
def C59_63 : AC := .cond (.t 5) .skip (.reg (.o 9 (.bin .eql (.t 4) (.c (.int .u8 8))) (.o 5 (.mov (.t 9)) .nil)) [])
def C59_64 : AC := .cond (.t 5) .skip (.seq (.reg (.o 8 (.bin .eql (.t 4) (.c (.int .u8 6))) (.o 5 (.mov (.t 8)) .nil)) []) C59_63)
def C59_65 : AC := .cond (.t 5) .skip (.seq (.reg (.o 7 (.bin .eql (.t 4) (.c (.int .u8 3))) (.o 5 (.mov (.t 7)) .nil)) []) C59_64)
def C59_66 : AC := .block 0 (.seq (.seq (.reg (.o 6 (.bin .eql (.t 4) (.c (.int .u8 1))) (.o 5 (.mov (.t 6)) .nil)) []) C59_65) C59_62)
def C59_67 : AC := .seq (.seq (.reg (.o 4 (.mov (.t 0)) .nil) []) C59_66) C59_2
def C59_68 : AC := .seq (.reg (.o 2 (.mov (.c (.str ⟨#[]⟩))) (.o 3 (.mov (.c (.bool false))) .nil)) []) C59_67
def F59 : AFunc := { ntmps := 54, results := [.tmp 2, .tmp 3], body := C59_68 }
theorem ok59 : okFn Try.prog 59 F59 = true := by kernel_rfl
def C60_1 : AC := .ret
def C60_2 : AC := .seq (.reg (.o 4 (.mov (.c (.bool false))) .nil) []) C60_1
def C60_3 : AC := .reg (.o 10 (.mov (.t 5)) (.o 11 (.bin .add (.t 10) (.c (.int .i64 1))) (.o 5 (.mov (.t 11)) .nil))) []
def C60_4 : AC := .ret
def C60_5 : AC := .cond (.t 16) (.seq (.reg (.o 4 (.mov (.c (.bool true))) .nil) []) C60_4) .skip
def C60_6 : AC := .seq (.block 1 (.seq (.reg (.o 12 (.mov (.t 0)) (.o 13 (.mov (.t 5)) (.o 14 (.ixStr (.t 12) (.t 13)) (.o 15 (.mov (.t 1)) (.o 16 (.bin .eql (.t 14) (.t 15)) .nil))))) []) C60_5)) C60_3
def C60_7 : AC := .cond (.t 9) .skip (.exit 0)
def C60_8 : AC := .seq (.seq (.reg (.o 6 (.mov (.t 5)) (.o 7 (.mov (.t 0)) (.o 8 (.lenStr (.t 7)) (.o 9 (.bin .lss (.t 6) (.t 8)) .nil)))) []) C60_7) C60_6
def C60_9 : AC := .kil (2 :: 3 :: 4 :: rg 6 11 []) (.pt C60_8)
def C60_10 : AC := .block 0 (.loop C60_9)
def C60_11 : AC := .seq (.seq (.reg (.o 5 (.mov (.c (.int .i64 0))) .nil) []) C60_10) C60_2
def C60_12 : AC := .seq (.reg (.o 4 (.mov (.c (.bool false))) .nil) []) C60_11
def F60 : AFunc := { ntmps := 17, results := [.tmp 4], body := C60_12 }
theorem ok60 : okFn Try.prog 60 F60 = true := by kernel_rfl
def C61_1 : AC := .ret
def C61_2 : AC := .seq (.reg (.o 18 (.mov (.t 1)) (.o 19 (.bin .eql (.t 18) (.c (.int .i64 0))) (.o 4 (.mov (.t 19)) .nil))) []) C61_1
def C61_3 : AC := .ret
def C61_4 : AC := .ret
def C61_5 : AC := .ret
def C61_6 : AC := .cond (.t 13) (.seq (.reg (.o 16 (.mov (.t 1)) (.o 17 (.callP 86 [(.t 16), (.c (.int .i64 0)), (.c (.int .i64 255))] (.r (.one .bool))) (.o 4 (.mov (.t 17)) .nil))) []) C61_5) .skip
def C61_7 : AC := .cond (.t 8) (.seq (.reg (.o 11 (.mov (.t 1)) (.o 12 (.callP 86 [(.t 11), (.c (.int .i64 0)), (.c (.int .i64 7))] (.r (.one .bool))) (.o 4 (.mov (.t 12)) .nil))) []) C61_4) (.seq (.reg (.o 14 (.mov (.t 0)) (.o 15 (.callP 60 [(.t 14), (.c (.int .u8 106))] (.r (.one .bool))) (.o 13 (.mov (.t 15)) .nil))) []) C61_6)
def C61_8 : AC := .cond (.t 5) (.seq (.reg (.o 4 (.mov (.c (.bool true))) .nil) []) C61_3) (.seq (.reg (.o 9 (.mov (.t 0)) (.o 10 (.callP 60 [(.t 9), (.c (.int .u8 112))] (.r (.one .bool))) (.o 8 (.mov (.t 10)) .nil))) []) C61_7)
def C61_9 : AC := .seq (.block 0 (.seq (.reg (.o 6 (.mov (.t 0)) (.o 7 (.callP 60 [(.t 6), (.c (.int .u8 111))] (.r (.one .bool))) (.o 5 (.mov (.t 7)) .nil))) []) C61_8)) C61_2
def C61_10 : AC := .seq (.reg (.o 4 (.mov (.c (.bool false))) .nil) []) C61_9
def F61 : AFunc := { ntmps := 20, results := [.tmp 4], body := C61_10 }
theorem ok61 : okFn Try.prog 61 F61 = true := by kernel_rfl
def C62_1 : AC := .ret
def C62_2 : AC := .seq (.reg (.o 44 (.mov (.t 1)) (.o 45 (.bin .eql (.t 44) (.c (.int .i64 0))) (.o 4 (.mov (.t 45)) .nil))) []) C62_1
def C62_3 : AC := .ret
def C62_4 : AC := .ret
def C62_5 : AC := .ret
def C62_6 : AC := .ret
def C62_7 : AC := .ret
def C62_8 : AC := .cond (.t 35) (.seq (.reg (.o 38 (.mov (.t 1)) (.o 39 (.callP 86 [(.t 38), (.c (.int .i64 1)), (.c (.int .i64 8))] (.r (.one .bool))) (.o 40 (.mov (.t 39)) (.grp 40 false (.o 41 (.mov (.t 1)) (.o 42 (.callP 86 [(.t 41), (.c (.int .i64 16)), (.c (.int .i64 23))] (.r (.one .bool))) .nil)) (.o 43 (.pick (.t 40) (.c (.bool true)) (.t 42)) (.o 4 (.mov (.t 43)) .nil)))))) []) C62_7) .skip
def C62_9 : AC := .cond (.t 30) (.seq (.reg (.o 33 (.mov (.t 1)) (.o 34 (.callP 86 [(.t 33), (.c (.int .i64 1)), (.c (.int .i64 16))] (.r (.one .bool))) (.o 4 (.mov (.t 34)) .nil))) []) C62_6) (.seq (.reg (.o 36 (.mov (.t 0)) (.o 37 (.callP 60 [(.t 36), (.c (.int .u8 99))] (.r (.one .bool))) (.o 35 (.mov (.t 37)) .nil))) []) C62_8)
def C62_10 : AC := .cond (.t 13) (.seq (.reg (.o 16 (.mov (.t 1)) (.o 17 (.bin .eql (.t 16) (.c (.int .i64 1))) (.o 18 (.mov (.t 17)) (.grp 18 false (.o 19 (.mov (.t 1)) (.o 20 (.bin .eql (.t 19) (.c (.int .i64 2))) .nil)) (.o 21 (.pick (.t 18) (.c (.bool true)) (.t 20)) (.o 22 (.mov (.t 21)) (.grp 22 false (.o 23 (.mov (.t 1)) (.o 24 (.bin .eql (.t 23) (.c (.int .i64 4))) .nil)) (.o 25 (.pick (.t 22) (.c (.bool true)) (.t 24)) (.o 26 (.mov (.t 25)) (.grp 26 false (.o 27 (.mov (.t 1)) (.o 28 (.bin .eql (.t 27) (.c (.int .i64 8))) .nil)) (.o 29 (.pick (.t 26) (.c (.bool true)) (.t 28)) (.o 4 (.mov (.t 29)) .nil)))))))))))) []) C62_5) (.seq (.reg (.o 31 (.mov (.t 0)) (.o 32 (.callP 60 [(.t 31), (.c (.int .u8 114))] (.r (.one .bool))) (.o 30 (.mov (.t 32)) .nil))) []) C62_9)
def C62_11 : AC := .cond (.t 8) (.seq (.reg (.o 11 (.mov (.t 1)) (.o 12 (.callP 86 [(.t 11), (.c (.int .i64 0)), (.c (.int .i64 63))] (.r (.one .bool))) (.o 4 (.mov (.t 12)) .nil))) []) C62_4) (.seq (.reg (.o 14 (.mov (.t 0)) (.o 15 (.callP 60 [(.t 14), (.c (.int .u8 119))] (.r (.one .bool))) (.o 13 (.mov (.t 15)) .nil))) []) C62_10)
def C62_12 : AC := .cond (.t 5) (.seq (.reg (.o 4 (.mov (.c (.bool true))) .nil) []) C62_3) (.seq (.reg (.o 9 (.mov (.t 0)) (.o 10 (.callP 60 [(.t 9), (.c (.int .u8 98))] (.r (.one .bool))) (.o 8 (.mov (.t 10)) .nil))) []) C62_11)
def C62_13 : AC := .seq (.block 0 (.seq (.reg (.o 6 (.mov (.t 0)) (.o 7 (.callP 60 [(.t 6), (.c (.int .u8 105))] (.r (.one .bool))) (.o 5 (.mov (.t 7)) .nil))) []) C62_12)) C62_2
def C62_14 : AC := .seq (.reg (.o 4 (.mov (.c (.bool false))) .nil) []) C62_13
def F62 : AFunc := { ntmps := 46, results := [.tmp 4], body := C62_14 }
theorem ok62 : okFn Try.prog 62 F62 = true := by kernel_rfl
def C85_1 : AC := .ret
def C85_2 : AC := .seq (.reg (.o 7 (.mov (.t 0)) (.o 8 (.mov (.t 1)) (.o 9 (.bin .geq (.t 7) (.t 8)) (.o 10 (.mov (.t 9)) (.grp 10 true (.o 11 (.mov (.t 0)) (.o 12 (.mov (.t 2)) (.o 13 (.bin .leq (.t 11) (.t 12)) .nil))) (.o 14 (.pick (.t 10) (.t 13) (.c (.bool false))) (.o 6 (.mov (.t 14)) .nil))))))) []) C85_1
def C85_3 : AC := .seq (.reg (.o 6 (.mov (.c (.bool false))) .nil) []) C85_2
def F85 : AFunc := { ntmps := 15, results := [.tmp 6], body := C85_3 }
def p85_0 (x0_1 : Int) (x1_2 : Int) (x2_3 : Int) (M : Mem) : Rs := run false call meth F85.results [.code C85_3] (some (.int .i64 x0_1) :: some (.int .i64 x1_2) :: some (.int .i64 x2_3) :: nn 12 []) M
theorem p85_0_eq (x0_1 : Int) (x1_2 : Int) (x2_3 : Int) (M : Mem) : p85_0 call meth x0_1 x1_2 x2_3 M = (cond (decide (x0_1 ≥ x1_2)) (some (.bool (decide (x0_1 ≤ x2_3)), M)) (some (.bool false, M))) :=
  (seg_run false call meth F85.results 100000 [.code C85_3] _ M).symm.trans (by kernel_rfl)
theorem run85 (x0_1 : Int) (x1_2 : Int) (x2_3 : Int) (M : Mem) : run false call meth F85.results [.code F85.body] (frame0 F85 [.int .i64 x0_1, .int .i64 x1_2, .int .i64 x2_3]) M = p85_0 call meth x0_1 x1_2 x2_3 M := by kernel_rfl
theorem ok85 : okFn Try.prog 85 F85 = true := by kernel_rfl
def C86_1 : AC := .ret
def C86_2 : AC := .seq (.reg (.o 7 (.mov (.t 0)) (.o 8 (.mov (.t 1)) (.o 9 (.bin .geq (.t 7) (.t 8)) (.o 10 (.mov (.t 9)) (.grp 10 true (.o 11 (.mov (.t 0)) (.o 12 (.mov (.t 2)) (.o 13 (.bin .leq (.t 11) (.t 12)) .nil))) (.o 14 (.pick (.t 10) (.t 13) (.c (.bool false))) (.o 6 (.mov (.t 14)) .nil))))))) []) C86_1
def C86_3 : AC := .seq (.reg (.o 6 (.mov (.c (.bool false))) .nil) []) C86_2
def F86 : AFunc := { ntmps := 15, results := [.tmp 6], body := C86_3 }
theorem ok86 : okFn Try.prog 86 F86 = true := by kernel_rfl
end
end Go.Proofs.Ytidofnpfeibbfaa.M
