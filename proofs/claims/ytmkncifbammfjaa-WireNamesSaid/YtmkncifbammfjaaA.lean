import Derived.Test.YtmkncifbammfjaaXRen
import Derived.Test.YtmkncifbammfjaaProg
set_option linter.unusedVariables false
set_option maxRecDepth 100000
namespace Go.Proofs.Ytmkncifbammfjaa.M
open Go.Abs
noncomputable section
variable (call : CallF) (meth : MethF)
def C24_1 : AC := .ret
def C24_2 : AC := .seq (.reg (.o 10 (.fldA 0 (.t 1)) (.o 11 (.load1 (.int .u8) (.t 10)) (.o 12 (.convI .u64 (.t 11)) (.o 13 (.shift .shl (.t 12) (.c (.int .u64 56))) (.o 14 (.fldA 1 (.t 1)) (.o 15 (.load1 (.int .u8) (.t 14)) (.o 16 (.convI .u64 (.t 15)) (.o 17 (.shift .shl (.t 16) (.c (.int .u64 52))) (.o 18 (.bin .or (.t 13) (.t 17)) (.o 19 (.fldA 2 (.t 1)) (.o 20 (.load1 (.int .u8) (.t 19)) (.o 21 (.convI .u64 (.t 20)) (.o 22 (.shift .shl (.t 21) (.c (.int .u64 48))) (.o 23 (.bin .or (.t 18) (.t 22)) (.o 24 (.fldA 3 (.t 1)) (.o 25 (.load1 (.int .i16) (.t 24)) (.o 26 (.convI .u16 (.t 25)) (.o 27 (.convI .u64 (.t 26)) (.o 28 (.shift .shl (.t 27) (.c (.int .u64 32))) (.o 29 (.bin .or (.t 23) (.t 28)) (.o 30 (.fldA 4 (.t 1)) (.o 31 (.load1 (.int .i32) (.t 30)) (.o 32 (.convI .u32 (.t 31)) (.o 33 (.convI .u64 (.t 32)) (.o 34 (.bin .or (.t 29) (.t 33)) (.o 2 (.mov (.t 34)) (.o 3 (.mov (.c (.int .i64 0))) .nil))))))))))))))))))))))))))) []) C24_1
def C24_3 : AC := .ret
def C24_4 : AC := .cond (.t 8) (.seq (.reg (.o 9 (.mov (.t 4)) (.o 2 (.mov (.c (.int .u64 0))) (.o 3 (.mov (.t 9)) .nil))) []) C24_3) .skip
def C24_5 : AC := .seq (.reg (.o 7 (.mov (.t 4)) (.o 8 (.bin .neq (.t 7) (.c (.int .i64 0))) .nil)) []) C24_4
def C24_6 : AC := .seq (.seq (.reg (.o 5 (.loadA [.int .u8, .int .u8, .int .u8, .int .i16, .int .i32] (.t 1)) (.o 6 (.callP 29 [(.t 5)] (.r (.one (.int .i64)))) (.o 4 (.mov (.t 6)) .nil))) []) C24_5) C24_2
def C24_7 : AC := .seq (.reg (.o 1 (.box (.t 0)) (.o 2 (.mov (.c (.int .u64 0))) (.o 3 (.mov (.c (.int .i64 0))) .nil))) []) C24_6
def F24 : AFunc := { ntmps := 35, results := [.tmp 2, .tmp 3], body := C24_7 }
def p24_0 (x0_1 : Int) (x0_2 : Int) (x0_3 : Int) (x0_4 : Int) (x0_5 : Int) (M : Mem) : Rs := run false call meth F24.results [.code C24_7] (some (.agg [.int .u8 x0_1, .int .u8 x0_2, .int .u8 x0_3, .int .i16 x0_4, .int .i32 x0_5]) :: nn 34 []) M
theorem p24_0_eq (x0_1 : Int) (x0_2 : Int) (x0_3 : Int) (x0_4 : Int) (x0_5 : Int) (M : Mem) : p24_0 call meth x0_1 x0_2 x0_3 x0_4 x0_5 M = (let M101 := M.alloc ⟨[.int .u8 x0_1, .int .u8 x0_2, .int .u8 x0_3, .int .i16 x0_4, .int .i32 x0_5], .fixed⟩; (Option.bind (M101.ldI .u8 M.n 0) fun x102 => (Option.bind (M101.ldI .u8 M.n 1) fun x103 => (Option.bind (M101.ldI .u8 M.n 2) fun x104 => (Option.bind (M101.ldI .i16 M.n 3) fun x105 => (Option.bind (M101.ldI .i32 M.n 4) fun x106 => (Option.bind (call 29 [.agg [.int .u8 x102, .int .u8 x103, .int .u8 x104, .int .i16 x105, .int .i32 x106]] Mem.empty) fun r107 => (Option.bind (r107.1.int? .i64) fun x108 => (cond (x108 != 0) (some (.tup [.int .u64 0, .int .i64 x108], M101)) (Option.bind (M101.ldI .u8 M.n 0) fun x109 => (Option.bind (M101.ldI .u8 M.n 1) fun x110 => (Option.bind (M101.ldI .u8 M.n 2) fun x111 => (Option.bind (M101.ldI .i16 M.n 3) fun x112 => (Option.bind (M101.ldI .i32 M.n 4) fun x113 => (some (.tup [.int .u64 (IntKind.wrap .u64 ((BitVec.ofInt (IntKind.bits .u64) (IntKind.wrap .u64 ((BitVec.ofInt (IntKind.bits .u64) (IntKind.wrap .u64 ((BitVec.ofInt (IntKind.bits .u64) (IntKind.wrap .u64 ((BitVec.ofInt (IntKind.bits .u64) (IntKind.wrap .u64 ((IntKind.wrap .u64 x109) * 2 ^ Nat.min 56 (IntKind.bits .u64))) ||| BitVec.ofInt (IntKind.bits .u64) (IntKind.wrap .u64 ((IntKind.wrap .u64 x110) * 2 ^ Nat.min 52 (IntKind.bits .u64)))).toNat)) ||| BitVec.ofInt (IntKind.bits .u64) (IntKind.wrap .u64 ((IntKind.wrap .u64 x111) * 2 ^ Nat.min 48 (IntKind.bits .u64)))).toNat)) ||| BitVec.ofInt (IntKind.bits .u64) (IntKind.wrap .u64 ((IntKind.wrap .u64 (IntKind.wrap .u16 x112)) * 2 ^ Nat.min 32 (IntKind.bits .u64)))).toNat)) ||| BitVec.ofInt (IntKind.bits .u64) (IntKind.wrap .u64 (IntKind.wrap .u32 x113))).toNat)), .int .i64 0], M101)))))))))))))))) :=
  (seg_run false call meth F24.results 100000 [.code C24_7] _ M).symm.trans (by kernel_rfl)
theorem run24 (x0_1 : Int) (x0_2 : Int) (x0_3 : Int) (x0_4 : Int) (x0_5 : Int) (M : Mem) : run false call meth F24.results [.code F24.body] (frame0 F24 [.agg [.int .u8 x0_1, .int .u8 x0_2, .int .u8 x0_3, .int .i16 x0_4, .int .i32 x0_5]]) M = p24_0 call meth x0_1 x0_2 x0_3 x0_4 x0_5 M := by kernel_rfl
theorem ok24 : okFn Try.prog 24 F24 = true := by kernel_rfl
def C27_1 : AC := .ret
def C27_2 : AC := .seq (.reg (.o 7 (.loadA [.int .u8, .int .u8, .int .u8, .int .i16, .int .i32] (.t 1)) (.o 8 (.callP 41 [(.t 7)] (.r (.one (.int .u64)))) (.o 2 (.mov (.t 8)) (.o 3 (.mov (.c (.int .i64 0))) .nil)))) []) C27_1
def C27_3 : AC := .ret
def C27_4 : AC := .cond (.t 6) (.seq (.reg (.o 2 (.mov (.c (.int .u64 0))) (.o 3 (.mov (.c (.int .i64 130))) .nil)) []) C27_3) .skip
def C27_5 : AC := .seq (.seq (.reg (.o 4 (.loadA [.int .u8, .int .u8, .int .u8, .int .i16, .int .i32] (.t 1)) (.o 5 (.callP 31 [(.t 4)] (.r (.one (.int .i64)))) (.o 6 (.bin .neq (.t 5) (.c (.int .i64 0))) .nil))) []) C27_4) C27_2
def C27_6 : AC := .seq (.reg (.o 1 (.box (.t 0)) (.o 2 (.mov (.c (.int .u64 0))) (.o 3 (.mov (.c (.int .i64 0))) .nil))) []) C27_5
def F27 : AFunc := { ntmps := 9, results := [.tmp 2, .tmp 3], body := C27_6 }
def p27_0 (x0_1 : Int) (x0_2 : Int) (x0_3 : Int) (x0_4 : Int) (x0_5 : Int) (M : Mem) : Rs := run false call meth F27.results [.code C27_6] (some (.agg [.int .u8 x0_1, .int .u8 x0_2, .int .u8 x0_3, .int .i16 x0_4, .int .i32 x0_5]) :: nn 8 []) M
theorem p27_0_eq (x0_1 : Int) (x0_2 : Int) (x0_3 : Int) (x0_4 : Int) (x0_5 : Int) (M : Mem) : p27_0 call meth x0_1 x0_2 x0_3 x0_4 x0_5 M = (let M101 := M.alloc ⟨[.int .u8 x0_1, .int .u8 x0_2, .int .u8 x0_3, .int .i16 x0_4, .int .i32 x0_5], .fixed⟩; (Option.bind (M101.ldI .u8 M.n 0) fun x102 => (Option.bind (M101.ldI .u8 M.n 1) fun x103 => (Option.bind (M101.ldI .u8 M.n 2) fun x104 => (Option.bind (M101.ldI .i16 M.n 3) fun x105 => (Option.bind (M101.ldI .i32 M.n 4) fun x106 => (Option.bind (call 31 [.agg [.int .u8 x102, .int .u8 x103, .int .u8 x104, .int .i16 x105, .int .i32 x106]] Mem.empty) fun r107 => (Option.bind (r107.1.int? .i64) fun x108 => (cond (x108 != 0) (some (.tup [.int .u64 0, .int .i64 130], M101)) (Option.bind (M101.ldI .u8 M.n 0) fun x109 => (Option.bind (M101.ldI .u8 M.n 1) fun x110 => (Option.bind (M101.ldI .u8 M.n 2) fun x111 => (Option.bind (M101.ldI .i16 M.n 3) fun x112 => (Option.bind (M101.ldI .i32 M.n 4) fun x113 => (Option.bind (call 41 [.agg [.int .u8 x109, .int .u8 x110, .int .u8 x111, .int .i16 x112, .int .i32 x113]] Mem.empty) fun r114 => (Option.bind (r114.1.int? .u64) fun x115 => (some (.tup [.int .u64 x115, .int .i64 0], M101)))))))))))))))))) :=
  (seg_run false call meth F27.results 100000 [.code C27_6] _ M).symm.trans (by kernel_rfl)
theorem run27 (x0_1 : Int) (x0_2 : Int) (x0_3 : Int) (x0_4 : Int) (x0_5 : Int) (M : Mem) : run false call meth F27.results [.code F27.body] (frame0 F27 [.agg [.int .u8 x0_1, .int .u8 x0_2, .int .u8 x0_3, .int .i16 x0_4, .int .i32 x0_5]]) M = p27_0 call meth x0_1 x0_2 x0_3 x0_4 x0_5 M := by kernel_rfl
theorem ok27 : okFn Try.prog 27 F27 = true := by kernel_rfl
def C29_1 : AC := .ret
def C29_2 : AC := .seq (.reg (.o 2 (.mov (.c (.int .i64 0))) .nil) []) C29_1
def C29_3 : AC := .ret
def C29_4 : AC := .ret
def C29_5 : AC := .ret
def C29_6 : AC := .cond (.t 33) (.seq (.reg (.o 2 (.mov (.c (.int .i64 130))) .nil) []) C29_5) .skip
def C29_7 : AC := .kil (rg 0 33 (rg 34 12 [])) (.pt C29_6)
def C29_8 : AC := .cond (.t 33) .skip (.reg (.o 40 (.mov (.t 3)) (.o 41 (.fldA 4 (.t 1)) (.o 42 (.load1 (.int .i32) (.t 41)) (.o 43 (.convI .i64 (.t 42)) (.o 44 (.callP 45 [(.t 40), (.t 43)] (.r (.one .bool))) (.o 45 (.not (.t 44)) (.o 33 (.mov (.t 45)) .nil))))))) [])
def C29_9 : AC := .cond (.t 16) (.seq (.reg (.o 2 (.mov (.c (.int .i64 130))) .nil) []) C29_4) (.seq (.seq (.reg (.o 34 (.mov (.t 3)) (.o 35 (.fldA 3 (.t 1)) (.o 36 (.load1 (.int .i16) (.t 35)) (.o 37 (.convI .i64 (.t 36)) (.o 38 (.callP 44 [(.t 34), (.t 37)] (.r (.one .bool))) (.o 39 (.not (.t 38)) (.o 33 (.mov (.t 39)) .nil))))))) []) C29_8) C29_7)
def C29_10 : AC := .kil (0 :: 2 :: rg 4 12 (rg 17 29 [])) (.pt C29_9)
def C29_11 : AC := .cond (.t 16) .skip (.reg (.o 25 (.mov (.t 3)) (.o 26 (.bin .and (.t 25) (.c (.int .i64 2))) (.o 27 (.bin .eql (.t 26) (.c (.int .i64 0))) (.o 28 (.mov (.t 27)) (.grp 28 true (.o 29 (.fldA 2 (.t 1)) (.o 30 (.load1 (.int .u8) (.t 29)) (.o 31 (.bin .gtr (.t 30) (.c (.int .u8 0))) .nil))) (.o 32 (.pick (.t 28) (.t 31) (.c (.bool false))) (.o 16 (.mov (.t 32)) .nil))))))) [])
def C29_12 : AC := .seq (.seq (.reg (.o 17 (.mov (.t 3)) (.o 18 (.bin .and (.t 17) (.c (.int .i64 1))) (.o 19 (.bin .eql (.t 18) (.c (.int .i64 0))) (.o 20 (.mov (.t 19)) (.grp 20 true (.o 21 (.fldA 1 (.t 1)) (.o 22 (.load1 (.int .u8) (.t 21)) (.o 23 (.bin .gtr (.t 22) (.c (.int .u8 0))) .nil))) (.o 24 (.pick (.t 20) (.t 23) (.c (.bool false))) (.o 16 (.mov (.t 24)) .nil))))))) []) C29_11) C29_10
def C29_13 : AC := .cond (.t 7) (.seq (.reg (.o 2 (.mov (.c (.int .i64 130))) .nil) []) C29_3) (.kil (0 :: 2 :: rg 4 42 []) (.pt C29_12))
def C29_14 : AC := .kil (0 :: 2 :: 4 :: 5 :: 6 :: rg 8 38 []) (.pt C29_13)
def C29_15 : AC := .cond (.t 7) .skip (.reg (.o 13 (.fldA 2 (.t 1)) (.o 14 (.load1 (.int .u8) (.t 13)) (.o 15 (.bin .geq (.t 14) (.c (.int .u8 10))) (.o 7 (.mov (.t 15)) .nil)))) [])
def C29_16 : AC := .cond (.t 7) .skip (.seq (.reg (.o 10 (.fldA 1 (.t 1)) (.o 11 (.load1 (.int .u8) (.t 10)) (.o 12 (.bin .geq (.t 11) (.c (.int .u8 10))) (.o 7 (.mov (.t 12)) .nil)))) []) C29_15)
def C29_17 : AC := .seq (.block 0 (.seq (.seq (.reg (.o 8 (.mov (.t 3)) (.o 9 (.bin .eql (.t 8) (.c (.int .i64 2048))) (.o 7 (.mov (.t 9)) .nil))) []) C29_16) C29_14)) C29_2
def C29_18 : AC := .seq (.reg (.o 4 (.fldA 0 (.t 1)) (.o 5 (.load1 (.int .u8) (.t 4)) (.o 6 (.callP 43 [(.t 5)] (.r (.one (.int .i64)))) (.o 3 (.mov (.t 6)) .nil)))) []) C29_17
def C29_19 : AC := .seq (.reg (.o 1 (.box (.t 0)) (.o 2 (.mov (.c (.int .i64 0))) .nil)) []) C29_18
def F29 : AFunc := { ntmps := 46, results := [.tmp 2], body := C29_19 }
def p29_0 (x0_1 : Int) (x0_2 : Int) (x0_3 : Int) (x0_4 : Int) (x0_5 : Int) (M : Mem) : Rs := run false call meth F29.results [.code C29_19] (some (.agg [.int .u8 x0_1, .int .u8 x0_2, .int .u8 x0_3, .int .i16 x0_4, .int .i32 x0_5]) :: nn 45 []) M
def p29_1 (x1_105 : Nat) (x3_106 : Int) (x7_107 : Bool) (M : Mem) : Rs := run false call meth F29.results [.code C29_13, .inBlock 0, .code C29_2] (none :: some (.ptr (some (x1_105, 0))) :: none :: some (.int .i64 x3_106) :: none :: none :: none :: some (.bool x7_107) :: nn 38 []) M
def p29_2 (x1_201 : Nat) (x3_202 : Int) (M : Mem) : Rs := run false call meth F29.results [.code C29_12, .inBlock 0, .code C29_2] (none :: some (.ptr (some (x1_201, 0))) :: none :: some (.int .i64 x3_202) :: nn 42 []) M
def p29_3 (x1_302 : Nat) (x3_303 : Int) (x16_304 : Bool) (M : Mem) : Rs := run false call meth F29.results [.code C29_9, .inBlock 0, .code C29_2] (none :: some (.ptr (some (x1_302, 0))) :: none :: some (.int .i64 x3_303) :: nn 12 (some (.bool x16_304) :: nn 29 [])) M
def p29_4 (x33_404 : Bool) (M : Mem) : Rs := run false call meth F29.results [.code C29_6, .inBlock 0, .code C29_2] (nn 33 (some (.bool x33_404) :: nn 12 [])) M
theorem p29_0_eq (x0_1 : Int) (x0_2 : Int) (x0_3 : Int) (x0_4 : Int) (x0_5 : Int) (M : Mem) : p29_0 call meth x0_1 x0_2 x0_3 x0_4 x0_5 M = (let M101 := M.alloc ⟨[.int .u8 x0_1, .int .u8 x0_2, .int .u8 x0_3, .int .i16 x0_4, .int .i32 x0_5], .fixed⟩; (Option.bind (M101.ldI .u8 M.n 0) fun x102 => (Option.bind (call 43 [.int .u8 x102] Mem.empty) fun r103 => (Option.bind (r103.1.int? .i64) fun x104 => (cond (x104 == 2048) (p29_1 call meth M.n x104 (x104 == 2048) M101) (Option.bind (M101.ldI .u8 M.n 1) fun x108 => (cond (decide (x108 ≥ 10)) (p29_1 call meth M.n x104 (decide (x108 ≥ 10)) M101) (Option.bind (M101.ldI .u8 M.n 2) fun x109 => (p29_1 call meth M.n x104 (decide (x109 ≥ 10)) M101))))))))) :=
  (seg_run false call meth F29.results 100000 [.code C29_19] _ M).symm.trans (by kernel_rfl)
theorem p29_1_eq (x1_105 : Nat) (x3_106 : Int) (x7_107 : Bool) (M : Mem) : p29_1 call meth x1_105 x3_106 x7_107 M = (cond x7_107 (some (.int .i64 130, M)) (p29_2 call meth x1_105 x3_106 M)) :=
  (seg_run false call meth F29.results 100000 [.code C29_13, .inBlock 0, .code C29_2] _ M).symm.trans (by kernel_rfl)
theorem p29_2_eq (x1_201 : Nat) (x3_202 : Int) (M : Mem) : p29_2 call meth x1_201 x3_202 M = (cond ((IntKind.wrap .i64 ((BitVec.ofInt (IntKind.bits .i64) x3_202 &&& BitVec.ofInt (IntKind.bits .i64) 1).toNat)) == 0) (Option.bind (M.ldI .u8 x1_201 1) fun x301 => (cond (decide (x301 > 0)) (p29_3 call meth x1_201 x3_202 (decide (x301 > 0)) M) (cond ((IntKind.wrap .i64 ((BitVec.ofInt (IntKind.bits .i64) x3_202 &&& BitVec.ofInt (IntKind.bits .i64) 2).toNat)) == 0) (Option.bind (M.ldI .u8 x1_201 2) fun x305 => (p29_3 call meth x1_201 x3_202 (decide (x305 > 0)) M)) (p29_3 call meth x1_201 x3_202 false M)))) (cond ((IntKind.wrap .i64 ((BitVec.ofInt (IntKind.bits .i64) x3_202 &&& BitVec.ofInt (IntKind.bits .i64) 2).toNat)) == 0) (Option.bind (M.ldI .u8 x1_201 2) fun x306 => (p29_3 call meth x1_201 x3_202 (decide (x306 > 0)) M)) (p29_3 call meth x1_201 x3_202 false M))) :=
  (seg_run false call meth F29.results 100000 [.code C29_12, .inBlock 0, .code C29_2] _ M).symm.trans (by kernel_rfl)
theorem p29_3_eq (x1_302 : Nat) (x3_303 : Int) (x16_304 : Bool) (M : Mem) : p29_3 call meth x1_302 x3_303 x16_304 M = (cond x16_304 (some (.int .i64 130, M)) (Option.bind (M.ldI .i16 x1_302 3) fun x401 => (Option.bind (call 44 [.int .i64 x3_303, .int .i64 (IntKind.wrap .i64 x401)] Mem.empty) fun r402 => (Option.bind (r402.1.bool?) fun x403 => (cond (!x403) (p29_4 call meth (!x403) M) (Option.bind (M.ldI .i32 x1_302 4) fun x405 => (Option.bind (call 45 [.int .i64 x3_303, .int .i64 (IntKind.wrap .i64 x405)] Mem.empty) fun r406 => (Option.bind (r406.1.bool?) fun x407 => (p29_4 call meth (!x407) M))))))))) :=
  (seg_run false call meth F29.results 100000 [.code C29_9, .inBlock 0, .code C29_2] _ M).symm.trans (by kernel_rfl)
theorem p29_4_eq (x33_404 : Bool) (M : Mem) : p29_4 call meth x33_404 M = (cond x33_404 (some (.int .i64 130, M)) (some (.int .i64 0, M))) :=
  (seg_run false call meth F29.results 100000 [.code C29_6, .inBlock 0, .code C29_2] _ M).symm.trans (by kernel_rfl)
theorem run29 (x0_1 : Int) (x0_2 : Int) (x0_3 : Int) (x0_4 : Int) (x0_5 : Int) (M : Mem) : run false call meth F29.results [.code F29.body] (frame0 F29 [.agg [.int .u8 x0_1, .int .u8 x0_2, .int .u8 x0_3, .int .i16 x0_4, .int .i32 x0_5]]) M = p29_0 call meth x0_1 x0_2 x0_3 x0_4 x0_5 M := by kernel_rfl
theorem ok29 : okFn Try.prog 29 F29 = true := by kernel_rfl
def C31_1 : AC := .ret
def C31_2 : AC := .seq (.reg (.o 2 (.mov (.c (.int .i64 0))) .nil) []) C31_1
def C31_3 : AC := .ret
def C31_4 : AC := .cond (.t 58) (.seq (.reg (.o 2 (.mov (.c (.int .i64 130))) .nil) []) C31_3) .skip
def C31_5 : AC := .seq (.seq (.reg (.o 11 (.mov (.t 4)) (.o 12 (.not (.t 11)) (.o 13 (.mov (.t 12)) (.grp 13 false (.o 14 (.fldA 1 (.t 1)) (.o 15 (.load1 (.int .u8) (.t 14)) (.o 16 (.bin .gtr (.t 15) (.c (.int .u8 9))) .nil))) (.o 17 (.pick (.t 13) (.c (.bool true)) (.t 16)) (.o 18 (.mov (.t 17)) (.grp 18 false (.o 19 (.fldA 2 (.t 1)) (.o 20 (.load1 (.int .u8) (.t 19)) (.o 21 (.bin .gtr (.t 20) (.c (.int .u8 9))) .nil))) (.o 22 (.pick (.t 18) (.c (.bool true)) (.t 21)) (.o 23 (.mov (.t 22)) (.grp 23 false (.o 24 (.fldA 1 (.t 1)) (.o 25 (.load1 (.int .u8) (.t 24)) (.o 26 (.bin .gtr (.t 25) (.c (.int .u8 0))) (.o 27 (.mov (.t 26)) (.grp 27 true (.o 28 (.mov (.t 3)) (.o 29 (.callP 47 [(.t 28), (.c (.int .u8 100))] (.r (.one .bool))) (.o 30 (.not (.t 29)) .nil))) (.o 31 (.pick (.t 27) (.t 30) (.c (.bool false))) .nil)))))) (.o 32 (.pick (.t 23) (.c (.bool true)) (.t 31)) (.o 33 (.mov (.t 32)) (.grp 33 false (.o 34 (.fldA 2 (.t 1)) (.o 35 (.load1 (.int .u8) (.t 34)) (.o 36 (.bin .gtr (.t 35) (.c (.int .u8 0))) (.o 37 (.mov (.t 36)) (.grp 37 true (.o 38 (.mov (.t 3)) (.o 39 (.callP 47 [(.t 38), (.c (.int .u8 115))] (.r (.one .bool))) (.o 40 (.not (.t 39)) .nil))) (.o 41 (.pick (.t 37) (.t 40) (.c (.bool false))) .nil)))))) (.o 42 (.pick (.t 33) (.c (.bool true)) (.t 41)) (.o 43 (.mov (.t 42)) (.grp 43 false (.o 44 (.mov (.t 3)) (.o 45 (.fldA 3 (.t 1)) (.o 46 (.load1 (.int .i16) (.t 45)) (.o 47 (.convI .i64 (.t 46)) (.o 48 (.callP 48 [(.t 44), (.t 47)] (.r (.one .bool))) (.o 49 (.not (.t 48)) .nil)))))) (.o 50 (.pick (.t 43) (.c (.bool true)) (.t 49)) (.o 51 (.mov (.t 50)) (.grp 51 false (.o 52 (.mov (.t 3)) (.o 53 (.fldA 4 (.t 1)) (.o 54 (.load1 (.int .i32) (.t 53)) (.o 55 (.convI .i64 (.t 54)) (.o 56 (.callP 49 [(.t 52), (.t 55)] (.r (.one .bool))) (.o 57 (.not (.t 56)) .nil)))))) (.o 58 (.pick (.t 51) (.c (.bool true)) (.t 57)) .nil)))))))))))))))))))) []) C31_4) C31_2
def C31_6 : AC := .seq (.reg (.o 6 (.fldA 0 (.t 1)) (.o 7 (.load1 (.int .u8) (.t 6)) (.o 8 (.callP 46 [(.t 7)] (.tup [.one .str, .one .bool])) (.o 5 (.mov (.t 8)) (.o 9 (.ext (.t 5) 0) (.o 10 (.ext (.t 5) 1) (.o 3 (.mov (.t 9)) (.o 4 (.mov (.t 10)) .nil)))))))) []) C31_5
def C31_7 : AC := .seq (.reg (.o 1 (.box (.t 0)) (.o 2 (.mov (.c (.int .i64 0))) .nil)) []) C31_6
def F31 : AFunc := { ntmps := 59, results := [.tmp 2], body := C31_7 }
def p31_0 (x0_1 : Int) (x0_2 : Int) (x0_3 : Int) (x0_4 : Int) (x0_5 : Int) (M : Mem) : Rs := run false call meth F31.results [.code C31_7] (some (.agg [.int .u8 x0_1, .int .u8 x0_2, .int .u8 x0_3, .int .i16 x0_4, .int .i32 x0_5]) :: nn 58 []) M
theorem p31_0_eq (x0_1 : Int) (x0_2 : Int) (x0_3 : Int) (x0_4 : Int) (x0_5 : Int) (M : Mem) : p31_0 call meth x0_1 x0_2 x0_3 x0_4 x0_5 M = (let M101 := M.alloc ⟨[.int .u8 x0_1, .int .u8 x0_2, .int .u8 x0_3, .int .i16 x0_4, .int .i32 x0_5], .fixed⟩; (Option.bind (M101.ldI .u8 M.n 0) fun x102 => (Option.bind (call 46 [.int .u8 x102] Mem.empty) fun r103 => (Option.bind r103.1.tup? fun l104 => (Option.bind l104.head? fun v105 => (Option.bind (v105.str?) fun x106 => (Option.bind l104.tail.head? fun v107 => (Option.bind (v107.bool?) fun x108 => (cond l104.tail.tail.isEmpty (cond (!x108) (some (.int .i64 130, M101)) (Option.bind (M101.ldI .u8 M.n 1) fun x109 => (cond (decide (x109 > 9)) (some (.int .i64 130, M101)) (Option.bind (M101.ldI .u8 M.n 2) fun x110 => (cond (decide (x110 > 9)) (some (.int .i64 130, M101)) (Option.bind (M101.ldI .u8 M.n 1) fun x111 => (cond (decide (x111 > 0)) (Option.bind (call 47 [.str x106, .int .u8 100] Mem.empty) fun r112 => (Option.bind (r112.1.bool?) fun x113 => (cond (!x113) (some (.int .i64 130, M101)) (Option.bind (M101.ldI .u8 M.n 2) fun x114 => (cond (decide (x114 > 0)) (Option.bind (call 47 [.str x106, .int .u8 115] Mem.empty) fun r115 => (Option.bind (r115.1.bool?) fun x116 => (cond (!x116) (some (.int .i64 130, M101)) (Option.bind (M101.ldI .i16 M.n 3) fun x117 => (Option.bind (call 48 [.str x106, .int .i64 (IntKind.wrap .i64 x117)] Mem.empty) fun r118 => (Option.bind (r118.1.bool?) fun x119 => (cond (!x119) (some (.int .i64 130, M101)) (Option.bind (M101.ldI .i32 M.n 4) fun x120 => (Option.bind (call 49 [.str x106, .int .i64 (IntKind.wrap .i64 x120)] Mem.empty) fun r121 => (Option.bind (r121.1.bool?) fun x122 => (cond (!x122) (some (.int .i64 130, M101)) (some (.int .i64 0, M101))))))))))))) (Option.bind (M101.ldI .i16 M.n 3) fun x123 => (Option.bind (call 48 [.str x106, .int .i64 (IntKind.wrap .i64 x123)] Mem.empty) fun r124 => (Option.bind (r124.1.bool?) fun x125 => (cond (!x125) (some (.int .i64 130, M101)) (Option.bind (M101.ldI .i32 M.n 4) fun x126 => (Option.bind (call 49 [.str x106, .int .i64 (IntKind.wrap .i64 x126)] Mem.empty) fun r127 => (Option.bind (r127.1.bool?) fun x128 => (cond (!x128) (some (.int .i64 130, M101)) (some (.int .i64 0, M101))))))))))))))) (Option.bind (M101.ldI .u8 M.n 2) fun x129 => (cond (decide (x129 > 0)) (Option.bind (call 47 [.str x106, .int .u8 115] Mem.empty) fun r130 => (Option.bind (r130.1.bool?) fun x131 => (cond (!x131) (some (.int .i64 130, M101)) (Option.bind (M101.ldI .i16 M.n 3) fun x132 => (Option.bind (call 48 [.str x106, .int .i64 (IntKind.wrap .i64 x132)] Mem.empty) fun r133 => (Option.bind (r133.1.bool?) fun x134 => (cond (!x134) (some (.int .i64 130, M101)) (Option.bind (M101.ldI .i32 M.n 4) fun x135 => (Option.bind (call 49 [.str x106, .int .i64 (IntKind.wrap .i64 x135)] Mem.empty) fun r136 => (Option.bind (r136.1.bool?) fun x137 => (cond (!x137) (some (.int .i64 130, M101)) (some (.int .i64 0, M101))))))))))))) (Option.bind (M101.ldI .i16 M.n 3) fun x138 => (Option.bind (call 48 [.str x106, .int .i64 (IntKind.wrap .i64 x138)] Mem.empty) fun r139 => (Option.bind (r139.1.bool?) fun x140 => (cond (!x140) (some (.int .i64 130, M101)) (Option.bind (M101.ldI .i32 M.n 4) fun x141 => (Option.bind (call 49 [.str x106, .int .i64 (IntKind.wrap .i64 x141)] Mem.empty) fun r142 => (Option.bind (r142.1.bool?) fun x143 => (cond (!x143) (some (.int .i64 130, M101)) (some (.int .i64 0, M101))))))))))))))))))) none))))))))) :=
  (seg_run false call meth F31.results 100000 [.code C31_7] _ M).symm.trans (by kernel_rfl)
theorem run31 (x0_1 : Int) (x0_2 : Int) (x0_3 : Int) (x0_4 : Int) (x0_5 : Int) (M : Mem) : run false call meth F31.results [.code F31.body] (frame0 F31 [.agg [.int .u8 x0_1, .int .u8 x0_2, .int .u8 x0_3, .int .i16 x0_4, .int .i32 x0_5]]) M = p31_0 call meth x0_1 x0_2 x0_3 x0_4 x0_5 M := by kernel_rfl
theorem ok31 : okFn Try.prog 31 F31 = true := by kernel_rfl
def C41_1 : AC := .ret
def C41_2 : AC := .seq (.reg (.o 3 (.fldA 0 (.t 1)) (.o 4 (.load1 (.int .u8) (.t 3)) (.o 5 (.convI .u64 (.t 4)) (.o 6 (.bin .mul (.t 5) (.c (.int .u64 72057594037927936))) (.o 7 (.fldA 1 (.t 1)) (.o 8 (.load1 (.int .u8) (.t 7)) (.o 9 (.convI .u64 (.t 8)) (.o 10 (.bin .mul (.t 9) (.c (.int .u64 4503599627370496))) (.o 11 (.bin .add (.t 6) (.t 10)) (.o 12 (.fldA 2 (.t 1)) (.o 13 (.load1 (.int .u8) (.t 12)) (.o 14 (.convI .u64 (.t 13)) (.o 15 (.bin .mul (.t 14) (.c (.int .u64 281474976710656))) (.o 16 (.bin .add (.t 11) (.t 15)) (.o 17 (.fldA 3 (.t 1)) (.o 18 (.load1 (.int .i16) (.t 17)) (.o 19 (.convI .u16 (.t 18)) (.o 20 (.convI .u64 (.t 19)) (.o 21 (.bin .mul (.t 20) (.c (.int .u64 4294967296))) (.o 22 (.bin .add (.t 16) (.t 21)) (.o 23 (.fldA 4 (.t 1)) (.o 24 (.load1 (.int .i32) (.t 23)) (.o 25 (.convI .u32 (.t 24)) (.o 26 (.convI .u64 (.t 25)) (.o 27 (.bin .add (.t 22) (.t 26)) (.o 2 (.mov (.t 27)) .nil)))))))))))))))))))))))))) []) C41_1
def C41_3 : AC := .seq (.reg (.o 1 (.box (.t 0)) (.o 2 (.mov (.c (.int .u64 0))) .nil)) []) C41_2
def F41 : AFunc := { ntmps := 28, results := [.tmp 2], body := C41_3 }
def p41_0 (x0_1 : Int) (x0_2 : Int) (x0_3 : Int) (x0_4 : Int) (x0_5 : Int) (M : Mem) : Rs := run false call meth F41.results [.code C41_3] (some (.agg [.int .u8 x0_1, .int .u8 x0_2, .int .u8 x0_3, .int .i16 x0_4, .int .i32 x0_5]) :: nn 27 []) M
theorem p41_0_eq (x0_1 : Int) (x0_2 : Int) (x0_3 : Int) (x0_4 : Int) (x0_5 : Int) (M : Mem) : p41_0 call meth x0_1 x0_2 x0_3 x0_4 x0_5 M = (let M101 := M.alloc ⟨[.int .u8 x0_1, .int .u8 x0_2, .int .u8 x0_3, .int .i16 x0_4, .int .i32 x0_5], .fixed⟩; (Option.bind (M101.ldI .u8 M.n 0) fun x102 => (Option.bind (M101.ldI .u8 M.n 1) fun x103 => (Option.bind (M101.ldI .u8 M.n 2) fun x104 => (Option.bind (M101.ldI .i16 M.n 3) fun x105 => (Option.bind (M101.ldI .i32 M.n 4) fun x106 => (some (.int .u64 (IntKind.wrap .u64 ((IntKind.wrap .u64 ((IntKind.wrap .u64 ((IntKind.wrap .u64 ((IntKind.wrap .u64 ((IntKind.wrap .u64 x102) * 72057594037927936)) + (IntKind.wrap .u64 ((IntKind.wrap .u64 x103) * 4503599627370496)))) + (IntKind.wrap .u64 ((IntKind.wrap .u64 x104) * 281474976710656)))) + (IntKind.wrap .u64 ((IntKind.wrap .u64 (IntKind.wrap .u16 x105)) * 4294967296)))) + (IntKind.wrap .u64 (IntKind.wrap .u32 x106)))), M101)))))))) :=
  (seg_run false call meth F41.results 100000 [.code C41_3] _ M).symm.trans (by kernel_rfl)
theorem run41 (x0_1 : Int) (x0_2 : Int) (x0_3 : Int) (x0_4 : Int) (x0_5 : Int) (M : Mem) : run false call meth F41.results [.code F41.body] (frame0 F41 [.agg [.int .u8 x0_1, .int .u8 x0_2, .int .u8 x0_3, .int .i16 x0_4, .int .i32 x0_5]]) M = p41_0 call meth x0_1 x0_2 x0_3 x0_4 x0_5 M := by kernel_rfl
theorem ok41 : okFn Try.prog 41 F41 = true := by kernel_rfl
def C43_1 : AC := .ret
def C43_2 : AC := .seq (.reg (.o 2 (.mov (.c (.int .i64 2048))) .nil) []) C43_1
def C43_3 : AC := .ret
def C43_4 : AC := .ret
def C43_5 : AC := .ret
def C43_6 : AC := .ret
def C43_7 : AC := .ret
def C43_8 : AC := .ret
def C43_9 : AC := .ret
def C43_10 : AC := .ret
def C43_11 : AC := .ret
def C43_12 : AC := .ret
def C43_13 : AC := .ret
def C43_14 : AC := .ret
def C43_15 : AC := .ret
def C43_16 : AC := .ret
def C43_17 : AC := .ret
def C43_18 : AC := .ret
def C43_19 : AC := .cond (.t 53) (.seq (.reg (.o 2 (.mov (.c (.int .i64 0))) .nil) []) C43_18) .skip
def C43_20 : AC := .kil (rg 0 53 (54 :: 55 :: [])) (.pt C43_19)
def C43_21 : AC := .cond (.t 53) .skip (.reg (.o 55 (.bin .eql (.t 3) (.c (.int .u8 36))) (.o 53 (.mov (.t 55)) .nil)) [])
def C43_22 : AC := .cond (.t 51) (.seq (.reg (.o 2 (.mov (.c (.int .i64 512))) .nil) []) C43_17) (.seq (.seq (.reg (.o 54 (.bin .eql (.t 3) (.c (.int .u8 34))) (.o 53 (.mov (.t 54)) .nil)) []) C43_21) C43_20)
def C43_23 : AC := .cond (.t 49) (.seq (.reg (.o 2 (.mov (.c (.int .i64 256))) .nil) []) C43_16) (.seq (.reg (.o 52 (.bin .eql (.t 3) (.c (.int .u8 35))) (.o 51 (.mov (.t 52)) .nil)) []) C43_22)
def C43_24 : AC := .cond (.t 42) (.seq (.reg (.o 2 (.mov (.c (.int .i64 19))) .nil) []) C43_15) (.seq (.reg (.o 50 (.bin .eql (.t 3) (.c (.int .u8 33))) (.o 49 (.mov (.t 50)) .nil)) []) C43_23)
def C43_25 : AC := .kil (0 :: 1 :: 2 :: rg 4 38 (rg 43 13 [])) (.pt C43_24)
def C43_26 : AC := .cond (.t 42) .skip (.reg (.o 48 (.bin .eql (.t 3) (.c (.int .u8 32))) (.o 42 (.mov (.t 48)) .nil)) [])
def C43_27 : AC := .cond (.t 42) .skip (.seq (.reg (.o 47 (.bin .eql (.t 3) (.c (.int .u8 31))) (.o 42 (.mov (.t 47)) .nil)) []) C43_26)
def C43_28 : AC := .cond (.t 42) .skip (.seq (.reg (.o 46 (.bin .eql (.t 3) (.c (.int .u8 30))) (.o 42 (.mov (.t 46)) .nil)) []) C43_27)
def C43_29 : AC := .cond (.t 42) .skip (.seq (.reg (.o 45 (.bin .eql (.t 3) (.c (.int .u8 29))) (.o 42 (.mov (.t 45)) .nil)) []) C43_28)
def C43_30 : AC := .cond (.t 42) .skip (.seq (.reg (.o 44 (.bin .eql (.t 3) (.c (.int .u8 28))) (.o 42 (.mov (.t 44)) .nil)) []) C43_29)
def C43_31 : AC := .seq (.seq (.reg (.o 43 (.bin .eql (.t 3) (.c (.int .u8 27))) (.o 42 (.mov (.t 43)) .nil)) []) C43_30) C43_25
def C43_32 : AC := .cond (.t 37) (.seq (.reg (.o 2 (.mov (.c (.int .i64 49))) .nil) []) C43_14) (.kil (0 :: 1 :: 2 :: rg 4 52 []) (.pt C43_31))
def C43_33 : AC := .kil (0 :: 1 :: 2 :: rg 4 33 (rg 38 18 [])) (.pt C43_32)
def C43_34 : AC := .cond (.t 37) .skip (.reg (.o 41 (.bin .eql (.t 3) (.c (.int .u8 26))) (.o 37 (.mov (.t 41)) .nil)) [])
def C43_35 : AC := .cond (.t 37) .skip (.seq (.reg (.o 40 (.bin .eql (.t 3) (.c (.int .u8 25))) (.o 37 (.mov (.t 40)) .nil)) []) C43_34)
def C43_36 : AC := .cond (.t 37) .skip (.seq (.reg (.o 39 (.bin .eql (.t 3) (.c (.int .u8 24))) (.o 37 (.mov (.t 39)) .nil)) []) C43_35)
def C43_37 : AC := .seq (.seq (.reg (.o 38 (.bin .eql (.t 3) (.c (.int .u8 23))) (.o 37 (.mov (.t 38)) .nil)) []) C43_36) C43_33
def C43_38 : AC := .cond (.t 35) (.seq (.reg (.o 2 (.mov (.c (.int .i64 16))) .nil) []) C43_13) (.kil (0 :: 1 :: 2 :: rg 4 52 []) (.pt C43_37))
def C43_39 : AC := .cond (.t 33) (.seq (.reg (.o 2 (.mov (.c (.int .i64 1033))) .nil) []) C43_12) (.seq (.reg (.o 36 (.bin .eql (.t 3) (.c (.int .u8 22))) (.o 35 (.mov (.t 36)) .nil)) []) C43_38)
def C43_40 : AC := .cond (.t 31) (.seq (.reg (.o 2 (.mov (.c (.int .i64 10))) .nil) []) C43_11) (.seq (.reg (.o 34 (.bin .eql (.t 3) (.c (.int .u8 21))) (.o 33 (.mov (.t 34)) .nil)) []) C43_39)
def C43_41 : AC := .cond (.t 29) (.seq (.reg (.o 2 (.mov (.c (.int .i64 135))) .nil) []) C43_10) (.seq (.reg (.o 32 (.bin .eql (.t 3) (.c (.int .u8 20))) (.o 31 (.mov (.t 32)) .nil)) []) C43_40)
def C43_42 : AC := .cond (.t 27) (.seq (.reg (.o 2 (.mov (.c (.int .i64 1159))) .nil) []) C43_9) (.seq (.reg (.o 30 (.bin .eql (.t 3) (.c (.int .u8 19))) (.o 29 (.mov (.t 30)) .nil)) []) C43_41)
def C43_43 : AC := .cond (.t 22) (.seq (.reg (.o 2 (.mov (.c (.int .i64 1025))) .nil) []) C43_8) (.seq (.reg (.o 28 (.bin .eql (.t 3) (.c (.int .u8 18))) (.o 27 (.mov (.t 28)) .nil)) []) C43_42)
def C43_44 : AC := .kil (0 :: 1 :: 2 :: rg 4 18 (rg 23 33 [])) (.pt C43_43)
def C43_45 : AC := .cond (.t 22) .skip (.reg (.o 26 (.bin .eql (.t 3) (.c (.int .u8 17))) (.o 22 (.mov (.t 26)) .nil)) [])
def C43_46 : AC := .cond (.t 22) .skip (.seq (.reg (.o 25 (.bin .eql (.t 3) (.c (.int .u8 16))) (.o 22 (.mov (.t 25)) .nil)) []) C43_45)
def C43_47 : AC := .cond (.t 22) .skip (.seq (.reg (.o 24 (.bin .eql (.t 3) (.c (.int .u8 15))) (.o 22 (.mov (.t 24)) .nil)) []) C43_46)
def C43_48 : AC := .seq (.seq (.reg (.o 23 (.bin .eql (.t 3) (.c (.int .u8 14))) (.o 22 (.mov (.t 23)) .nil)) []) C43_47) C43_44
def C43_49 : AC := .cond (.t 19) (.seq (.reg (.o 2 (.mov (.c (.int .i64 65))) .nil) []) C43_7) (.kil (0 :: 1 :: 2 :: rg 4 52 []) (.pt C43_48))
def C43_50 : AC := .kil (0 :: 1 :: 2 :: rg 4 15 (rg 20 36 [])) (.pt C43_49)
def C43_51 : AC := .cond (.t 19) .skip (.reg (.o 21 (.bin .eql (.t 3) (.c (.int .u8 13))) (.o 19 (.mov (.t 21)) .nil)) [])
def C43_52 : AC := .seq (.seq (.reg (.o 20 (.bin .eql (.t 3) (.c (.int .u8 12))) (.o 19 (.mov (.t 20)) .nil)) []) C43_51) C43_50
def C43_53 : AC := .cond (.t 12) (.seq (.reg (.o 2 (.mov (.c (.int .i64 3))) .nil) []) C43_6) (.kil (0 :: 1 :: 2 :: rg 4 52 []) (.pt C43_52))
def C43_54 : AC := .kil (0 :: 1 :: 2 :: rg 4 8 (rg 13 43 [])) (.pt C43_53)
def C43_55 : AC := .cond (.t 12) .skip (.reg (.o 18 (.bin .eql (.t 3) (.c (.int .u8 11))) (.o 12 (.mov (.t 18)) .nil)) [])
def C43_56 : AC := .cond (.t 12) .skip (.seq (.reg (.o 17 (.bin .eql (.t 3) (.c (.int .u8 10))) (.o 12 (.mov (.t 17)) .nil)) []) C43_55)
def C43_57 : AC := .cond (.t 12) .skip (.seq (.reg (.o 16 (.bin .eql (.t 3) (.c (.int .u8 9))) (.o 12 (.mov (.t 16)) .nil)) []) C43_56)
def C43_58 : AC := .cond (.t 12) .skip (.seq (.reg (.o 15 (.bin .eql (.t 3) (.c (.int .u8 7))) (.o 12 (.mov (.t 15)) .nil)) []) C43_57)
def C43_59 : AC := .cond (.t 12) .skip (.seq (.reg (.o 14 (.bin .eql (.t 3) (.c (.int .u8 5))) (.o 12 (.mov (.t 14)) .nil)) []) C43_58)
def C43_60 : AC := .seq (.seq (.reg (.o 13 (.bin .eql (.t 3) (.c (.int .u8 4))) (.o 12 (.mov (.t 13)) .nil)) []) C43_59) C43_54
def C43_61 : AC := .cond (.t 8) (.seq (.reg (.o 2 (.mov (.c (.int .i64 33))) .nil) []) C43_5) (.kil (0 :: 1 :: 2 :: rg 4 52 []) (.pt C43_60))
def C43_62 : AC := .kil (0 :: 1 :: 2 :: 4 :: 5 :: 6 :: 7 :: rg 9 47 []) (.pt C43_61)
def C43_63 : AC := .cond (.t 8) .skip (.reg (.o 11 (.bin .eql (.t 3) (.c (.int .u8 8))) (.o 8 (.mov (.t 11)) .nil)) [])
def C43_64 : AC := .cond (.t 8) .skip (.seq (.reg (.o 10 (.bin .eql (.t 3) (.c (.int .u8 6))) (.o 8 (.mov (.t 10)) .nil)) []) C43_63)
def C43_65 : AC := .seq (.seq (.reg (.o 9 (.bin .eql (.t 3) (.c (.int .u8 3))) (.o 8 (.mov (.t 9)) .nil)) []) C43_64) C43_62
def C43_66 : AC := .cond (.t 6) (.seq (.reg (.o 2 (.mov (.c (.int .i64 1027))) .nil) []) C43_4) (.kil (0 :: 1 :: 2 :: rg 4 52 []) (.pt C43_65))
def C43_67 : AC := .cond (.t 4) (.seq (.reg (.o 2 (.mov (.c (.int .i64 1057))) .nil) []) C43_3) (.seq (.reg (.o 7 (.bin .eql (.t 3) (.c (.int .u8 2))) (.o 6 (.mov (.t 7)) .nil)) []) C43_66)
def C43_68 : AC := .block 0 (.seq (.reg (.o 5 (.bin .eql (.t 3) (.c (.int .u8 1))) (.o 4 (.mov (.t 5)) .nil)) []) C43_67)
def C43_69 : AC := .seq (.seq (.reg (.o 3 (.mov (.t 0)) .nil) []) C43_68) C43_2
def C43_70 : AC := .seq (.reg (.o 2 (.mov (.c (.int .i64 0))) .nil) []) C43_69
def F43 : AFunc := { ntmps := 56, results := [.tmp 2], body := C43_70 }
def p43_0 (x0_1 : Int) (M : Mem) : Rs := run false call meth F43.results [.code C43_70] (some (.int .u8 x0_1) :: nn 55 []) M
def p43_1 (x3_101 : Int) (M : Mem) : Rs := run false call meth F43.results [.code C43_65, .inBlock 0, .code C43_2] (none :: none :: none :: some (.int .u8 x3_101) :: nn 52 []) M
def p43_2 (x3_201 : Int) (x8_202 : Bool) (M : Mem) : Rs := run false call meth F43.results [.code C43_61, .inBlock 0, .code C43_2] (none :: none :: none :: some (.int .u8 x3_201) :: nn 4 (some (.bool x8_202) :: nn 47 [])) M
def p43_3 (x3_301 : Int) (M : Mem) : Rs := run false call meth F43.results [.code C43_60, .inBlock 0, .code C43_2] (none :: none :: none :: some (.int .u8 x3_301) :: nn 52 []) M
def p43_4 (x3_401 : Int) (x12_402 : Bool) (M : Mem) : Rs := run false call meth F43.results [.code C43_53, .inBlock 0, .code C43_2] (none :: none :: none :: some (.int .u8 x3_401) :: nn 8 (some (.bool x12_402) :: nn 43 [])) M
def p43_5 (x3_501 : Int) (M : Mem) : Rs := run false call meth F43.results [.code C43_52, .inBlock 0, .code C43_2] (none :: none :: none :: some (.int .u8 x3_501) :: nn 52 []) M
def p43_6 (x3_601 : Int) (x19_602 : Bool) (M : Mem) : Rs := run false call meth F43.results [.code C43_49, .inBlock 0, .code C43_2] (none :: none :: none :: some (.int .u8 x3_601) :: nn 15 (some (.bool x19_602) :: nn 36 [])) M
def p43_7 (x3_701 : Int) (M : Mem) : Rs := run false call meth F43.results [.code C43_48, .inBlock 0, .code C43_2] (none :: none :: none :: some (.int .u8 x3_701) :: nn 52 []) M
def p43_8 (x3_801 : Int) (x22_802 : Bool) (M : Mem) : Rs := run false call meth F43.results [.code C43_43, .inBlock 0, .code C43_2] (none :: none :: none :: some (.int .u8 x3_801) :: nn 18 (some (.bool x22_802) :: nn 33 [])) M
def p43_9 (x3_901 : Int) (M : Mem) : Rs := run false call meth F43.results [.code C43_37, .inBlock 0, .code C43_2] (none :: none :: none :: some (.int .u8 x3_901) :: nn 52 []) M
def p43_10 (x3_1001 : Int) (x37_1002 : Bool) (M : Mem) : Rs := run false call meth F43.results [.code C43_32, .inBlock 0, .code C43_2] (none :: none :: none :: some (.int .u8 x3_1001) :: nn 33 (some (.bool x37_1002) :: nn 18 [])) M
def p43_11 (x3_1101 : Int) (M : Mem) : Rs := run false call meth F43.results [.code C43_31, .inBlock 0, .code C43_2] (none :: none :: none :: some (.int .u8 x3_1101) :: nn 52 []) M
def p43_12 (x3_1201 : Int) (x42_1202 : Bool) (M : Mem) : Rs := run false call meth F43.results [.code C43_24, .inBlock 0, .code C43_2] (none :: none :: none :: some (.int .u8 x3_1201) :: nn 38 (some (.bool x42_1202) :: nn 13 [])) M
def p43_13 (x53_1301 : Bool) (M : Mem) : Rs := run false call meth F43.results [.code C43_19, .inBlock 0, .code C43_2] (nn 53 (some (.bool x53_1301) :: none :: none :: [])) M
theorem p43_0_eq (x0_1 : Int) (M : Mem) : p43_0 call meth x0_1 M = (cond (x0_1 == 1) (some (.int .i64 1057, M)) (cond (x0_1 == 2) (some (.int .i64 1027, M)) (p43_1 call meth x0_1 M))) :=
  (seg_run false call meth F43.results 100000 [.code C43_70] _ M).symm.trans (by kernel_rfl)
theorem p43_1_eq (x3_101 : Int) (M : Mem) : p43_1 call meth x3_101 M = (cond (x3_101 == 3) (p43_2 call meth x3_101 (x3_101 == 3) M) (cond (x3_101 == 6) (p43_2 call meth x3_101 (x3_101 == 6) M) (p43_2 call meth x3_101 (x3_101 == 8) M))) :=
  (seg_run false call meth F43.results 100000 [.code C43_65, .inBlock 0, .code C43_2] _ M).symm.trans (by kernel_rfl)
theorem p43_2_eq (x3_201 : Int) (x8_202 : Bool) (M : Mem) : p43_2 call meth x3_201 x8_202 M = (cond x8_202 (some (.int .i64 33, M)) (p43_3 call meth x3_201 M)) :=
  (seg_run false call meth F43.results 100000 [.code C43_61, .inBlock 0, .code C43_2] _ M).symm.trans (by kernel_rfl)
theorem p43_3_eq (x3_301 : Int) (M : Mem) : p43_3 call meth x3_301 M = (cond (x3_301 == 4) (p43_4 call meth x3_301 (x3_301 == 4) M) (cond (x3_301 == 5) (p43_4 call meth x3_301 (x3_301 == 5) M) (cond (x3_301 == 7) (p43_4 call meth x3_301 (x3_301 == 7) M) (cond (x3_301 == 9) (p43_4 call meth x3_301 (x3_301 == 9) M) (cond (x3_301 == 10) (p43_4 call meth x3_301 (x3_301 == 10) M) (p43_4 call meth x3_301 (x3_301 == 11) M)))))) :=
  (seg_run false call meth F43.results 100000 [.code C43_60, .inBlock 0, .code C43_2] _ M).symm.trans (by kernel_rfl)
theorem p43_4_eq (x3_401 : Int) (x12_402 : Bool) (M : Mem) : p43_4 call meth x3_401 x12_402 M = (cond x12_402 (some (.int .i64 3, M)) (p43_5 call meth x3_401 M)) :=
  (seg_run false call meth F43.results 100000 [.code C43_53, .inBlock 0, .code C43_2] _ M).symm.trans (by kernel_rfl)
theorem p43_5_eq (x3_501 : Int) (M : Mem) : p43_5 call meth x3_501 M = (cond (x3_501 == 12) (p43_6 call meth x3_501 (x3_501 == 12) M) (p43_6 call meth x3_501 (x3_501 == 13) M)) :=
  (seg_run false call meth F43.results 100000 [.code C43_52, .inBlock 0, .code C43_2] _ M).symm.trans (by kernel_rfl)
theorem p43_6_eq (x3_601 : Int) (x19_602 : Bool) (M : Mem) : p43_6 call meth x3_601 x19_602 M = (cond x19_602 (some (.int .i64 65, M)) (p43_7 call meth x3_601 M)) :=
  (seg_run false call meth F43.results 100000 [.code C43_49, .inBlock 0, .code C43_2] _ M).symm.trans (by kernel_rfl)
theorem p43_7_eq (x3_701 : Int) (M : Mem) : p43_7 call meth x3_701 M = (cond (x3_701 == 14) (p43_8 call meth x3_701 (x3_701 == 14) M) (cond (x3_701 == 15) (p43_8 call meth x3_701 (x3_701 == 15) M) (cond (x3_701 == 16) (p43_8 call meth x3_701 (x3_701 == 16) M) (p43_8 call meth x3_701 (x3_701 == 17) M)))) :=
  (seg_run false call meth F43.results 100000 [.code C43_48, .inBlock 0, .code C43_2] _ M).symm.trans (by kernel_rfl)
theorem p43_8_eq (x3_801 : Int) (x22_802 : Bool) (M : Mem) : p43_8 call meth x3_801 x22_802 M = (cond x22_802 (some (.int .i64 1025, M)) (cond (x3_801 == 18) (some (.int .i64 1159, M)) (cond (x3_801 == 19) (some (.int .i64 135, M)) (cond (x3_801 == 20) (some (.int .i64 10, M)) (cond (x3_801 == 21) (some (.int .i64 1033, M)) (cond (x3_801 == 22) (some (.int .i64 16, M)) (p43_9 call meth x3_801 M))))))) :=
  (seg_run false call meth F43.results 100000 [.code C43_43, .inBlock 0, .code C43_2] _ M).symm.trans (by kernel_rfl)
theorem p43_9_eq (x3_901 : Int) (M : Mem) : p43_9 call meth x3_901 M = (cond (x3_901 == 23) (p43_10 call meth x3_901 (x3_901 == 23) M) (cond (x3_901 == 24) (p43_10 call meth x3_901 (x3_901 == 24) M) (cond (x3_901 == 25) (p43_10 call meth x3_901 (x3_901 == 25) M) (p43_10 call meth x3_901 (x3_901 == 26) M)))) :=
  (seg_run false call meth F43.results 100000 [.code C43_37, .inBlock 0, .code C43_2] _ M).symm.trans (by kernel_rfl)
theorem p43_10_eq (x3_1001 : Int) (x37_1002 : Bool) (M : Mem) : p43_10 call meth x3_1001 x37_1002 M = (cond x37_1002 (some (.int .i64 49, M)) (p43_11 call meth x3_1001 M)) :=
  (seg_run false call meth F43.results 100000 [.code C43_32, .inBlock 0, .code C43_2] _ M).symm.trans (by kernel_rfl)
theorem p43_11_eq (x3_1101 : Int) (M : Mem) : p43_11 call meth x3_1101 M = (cond (x3_1101 == 27) (p43_12 call meth x3_1101 (x3_1101 == 27) M) (cond (x3_1101 == 28) (p43_12 call meth x3_1101 (x3_1101 == 28) M) (cond (x3_1101 == 29) (p43_12 call meth x3_1101 (x3_1101 == 29) M) (cond (x3_1101 == 30) (p43_12 call meth x3_1101 (x3_1101 == 30) M) (cond (x3_1101 == 31) (p43_12 call meth x3_1101 (x3_1101 == 31) M) (p43_12 call meth x3_1101 (x3_1101 == 32) M)))))) :=
  (seg_run false call meth F43.results 100000 [.code C43_31, .inBlock 0, .code C43_2] _ M).symm.trans (by kernel_rfl)
theorem p43_12_eq (x3_1201 : Int) (x42_1202 : Bool) (M : Mem) : p43_12 call meth x3_1201 x42_1202 M = (cond x42_1202 (some (.int .i64 19, M)) (cond (x3_1201 == 33) (some (.int .i64 256, M)) (cond (x3_1201 == 35) (some (.int .i64 512, M)) (cond (x3_1201 == 34) (p43_13 call meth (x3_1201 == 34) M) (p43_13 call meth (x3_1201 == 36) M))))) :=
  (seg_run false call meth F43.results 100000 [.code C43_24, .inBlock 0, .code C43_2] _ M).symm.trans (by kernel_rfl)
theorem p43_13_eq (x53_1301 : Bool) (M : Mem) : p43_13 call meth x53_1301 M = (cond x53_1301 (some (.int .i64 0, M)) (some (.int .i64 2048, M))) :=
  (seg_run false call meth F43.results 100000 [.code C43_19, .inBlock 0, .code C43_2] _ M).symm.trans (by kernel_rfl)
theorem run43 (x0_1 : Int) (M : Mem) : run false call meth F43.results [.code F43.body] (frame0 F43 [.int .u8 x0_1]) M = p43_0 call meth x0_1 M := by kernel_rfl
theorem ok43 : okFn Try.prog 43 F43 = true := by kernel_rfl
def C44_1 : AC := .ret
def C44_2 : AC := .seq (.reg (.o 21 (.mov (.t 1)) (.o 22 (.bin .eql (.t 21) (.c (.int .i64 0))) (.o 4 (.mov (.t 22)) .nil))) []) C44_1
def C44_3 : AC := .ret
def C44_4 : AC := .ret
def C44_5 : AC := .ret
def C44_6 : AC := .cond (.t 15) (.seq (.reg (.o 19 (.mov (.t 1)) (.o 20 (.callP 57 [(.t 19), (.c (.int .i64 0)), (.c (.int .i64 255))] (.r (.one .bool))) (.o 4 (.mov (.t 20)) .nil))) []) C44_5) .skip
def C44_7 : AC := .cond (.t 9) (.seq (.reg (.o 13 (.mov (.t 1)) (.o 14 (.callP 57 [(.t 13), (.c (.int .i64 0)), (.c (.int .i64 7))] (.r (.one .bool))) (.o 4 (.mov (.t 14)) .nil))) []) C44_4) (.seq (.reg (.o 16 (.mov (.t 0)) (.o 17 (.bin .and (.t 16) (.c (.int .i64 16))) (.o 18 (.bin .neq (.t 17) (.c (.int .i64 0))) (.o 15 (.mov (.t 18)) .nil)))) []) C44_6)
def C44_8 : AC := .cond (.t 5) (.seq (.reg (.o 4 (.mov (.c (.bool true))) .nil) []) C44_3) (.seq (.reg (.o 10 (.mov (.t 0)) (.o 11 (.bin .and (.t 10) (.c (.int .i64 8))) (.o 12 (.bin .neq (.t 11) (.c (.int .i64 0))) (.o 9 (.mov (.t 12)) .nil)))) []) C44_7)
def C44_9 : AC := .seq (.block 0 (.seq (.reg (.o 6 (.mov (.t 0)) (.o 7 (.bin .and (.t 6) (.c (.int .i64 4))) (.o 8 (.bin .neq (.t 7) (.c (.int .i64 0))) (.o 5 (.mov (.t 8)) .nil)))) []) C44_8)) C44_2
def C44_10 : AC := .seq (.reg (.o 4 (.mov (.c (.bool false))) .nil) []) C44_9
def F44 : AFunc := { ntmps := 23, results := [.tmp 4], body := C44_10 }
def p44_0 (x0_1 : Int) (x1_2 : Int) (M : Mem) : Rs := run false call meth F44.results [.code C44_10] (some (.int .i64 x0_1) :: some (.int .i64 x1_2) :: nn 21 []) M
theorem p44_0_eq (x0_1 : Int) (x1_2 : Int) (M : Mem) : p44_0 call meth x0_1 x1_2 M = (cond ((IntKind.wrap .i64 ((BitVec.ofInt (IntKind.bits .i64) x0_1 &&& BitVec.ofInt (IntKind.bits .i64) 4).toNat)) != 0) (some (.bool true, M)) (cond ((IntKind.wrap .i64 ((BitVec.ofInt (IntKind.bits .i64) x0_1 &&& BitVec.ofInt (IntKind.bits .i64) 8).toNat)) != 0) (Option.bind (call 57 [.int .i64 x1_2, .int .i64 0, .int .i64 7] Mem.empty) fun r101 => (Option.bind (r101.1.bool?) fun x102 => (some (.bool x102, M)))) (cond ((IntKind.wrap .i64 ((BitVec.ofInt (IntKind.bits .i64) x0_1 &&& BitVec.ofInt (IntKind.bits .i64) 16).toNat)) != 0) (Option.bind (call 57 [.int .i64 x1_2, .int .i64 0, .int .i64 255] Mem.empty) fun r103 => (Option.bind (r103.1.bool?) fun x104 => (some (.bool x104, M)))) (some (.bool (x1_2 == 0), M))))) :=
  (seg_run false call meth F44.results 100000 [.code C44_10] _ M).symm.trans (by kernel_rfl)
theorem run44 (x0_1 : Int) (x1_2 : Int) (M : Mem) : run false call meth F44.results [.code F44.body] (frame0 F44 [.int .i64 x0_1, .int .i64 x1_2]) M = p44_0 call meth x0_1 x1_2 M := by kernel_rfl
theorem ok44 : okFn Try.prog 44 F44 = true := by kernel_rfl
def C45_1 : AC := .ret
def C45_2 : AC := .seq (.reg (.o 42 (.mov (.t 1)) (.o 43 (.bin .eql (.t 42) (.c (.int .i64 0))) (.o 4 (.mov (.t 43)) .nil))) []) C45_1
def C45_3 : AC := .ret
def C45_4 : AC := .ret
def C45_5 : AC := .ret
def C45_6 : AC := .ret
def C45_7 : AC := .ret
def C45_8 : AC := .cond (.t 34) (.seq (.reg (.o 38 (.mov (.t 1)) (.o 39 (.convI .i32 (.t 38)) (.o 40 (.callP 58 [(.t 39)] (.r (.one (.int .i64)))) (.o 41 (.bin .gtr (.t 40) (.c (.int .i64 0))) (.o 4 (.mov (.t 41)) .nil))))) []) C45_7) .skip
def C45_9 : AC := .cond (.t 28) (.seq (.reg (.o 32 (.mov (.t 1)) (.o 33 (.callP 57 [(.t 32), (.c (.int .i64 1)), (.c (.int .i64 16))] (.r (.one .bool))) (.o 4 (.mov (.t 33)) .nil))) []) C45_6) (.seq (.reg (.o 35 (.mov (.t 0)) (.o 36 (.bin .and (.t 35) (.c (.int .i64 512))) (.o 37 (.bin .neq (.t 36) (.c (.int .i64 0))) (.o 34 (.mov (.t 37)) .nil)))) []) C45_8)
def C45_10 : AC := .cond (.t 15) (.seq (.reg (.o 19 (.mov (.t 1)) (.o 20 (.callP 57 [(.t 19), (.c (.int .i64 1)), (.c (.int .i64 8))] (.r (.one .bool))) (.o 21 (.mov (.t 20)) (.grp 21 true (.o 22 (.mov (.t 1)) (.o 23 (.mov (.t 1)) (.o 24 (.bin .sub (.t 23) (.c (.int .i64 1))) (.o 25 (.bin .and (.t 22) (.t 24)) (.o 26 (.bin .eql (.t 25) (.c (.int .i64 0))) .nil))))) (.o 27 (.pick (.t 21) (.t 26) (.c (.bool false))) (.o 4 (.mov (.t 27)) .nil)))))) []) C45_5) (.seq (.reg (.o 29 (.mov (.t 0)) (.o 30 (.bin .and (.t 29) (.c (.int .i64 256))) (.o 31 (.bin .neq (.t 30) (.c (.int .i64 0))) (.o 28 (.mov (.t 31)) .nil)))) []) C45_9)
def C45_11 : AC := .seq (.reg (.o 16 (.mov (.t 0)) (.o 17 (.bin .and (.t 16) (.c (.int .i64 128))) (.o 18 (.bin .neq (.t 17) (.c (.int .i64 0))) (.o 15 (.mov (.t 18)) .nil)))) []) C45_10
def C45_12 : AC := .cond (.t 9) (.seq (.reg (.o 13 (.mov (.t 1)) (.o 14 (.callP 57 [(.t 13), (.c (.int .i64 0)), (.c (.int .i64 63))] (.r (.one .bool))) (.o 4 (.mov (.t 14)) .nil))) []) C45_4) (.kil (rg 2 42 []) (.pt C45_11))
def C45_13 : AC := .seq (.reg (.o 10 (.mov (.t 0)) (.o 11 (.bin .and (.t 10) (.c (.int .i64 64))) (.o 12 (.bin .neq (.t 11) (.c (.int .i64 0))) (.o 9 (.mov (.t 12)) .nil)))) []) C45_12
def C45_14 : AC := .cond (.t 5) (.seq (.reg (.o 4 (.mov (.c (.bool true))) .nil) []) C45_3) (.kil (rg 2 42 []) (.pt C45_13))
def C45_15 : AC := .seq (.block 0 (.seq (.reg (.o 6 (.mov (.t 0)) (.o 7 (.bin .and (.t 6) (.c (.int .i64 32))) (.o 8 (.bin .neq (.t 7) (.c (.int .i64 0))) (.o 5 (.mov (.t 8)) .nil)))) []) C45_14)) C45_2
def C45_16 : AC := .seq (.reg (.o 4 (.mov (.c (.bool false))) .nil) []) C45_15
def F45 : AFunc := { ntmps := 44, results := [.tmp 4], body := C45_16 }
def p45_0 (x0_1 : Int) (x1_2 : Int) (M : Mem) : Rs := run false call meth F45.results [.code C45_16] (some (.int .i64 x0_1) :: some (.int .i64 x1_2) :: nn 42 []) M
def p45_1 (x0_101 : Int) (x1_102 : Int) (M : Mem) : Rs := run false call meth F45.results [.code C45_13, .inBlock 0, .code C45_2] (some (.int .i64 x0_101) :: some (.int .i64 x1_102) :: nn 42 []) M
def p45_2 (x0_203 : Int) (x1_204 : Int) (M : Mem) : Rs := run false call meth F45.results [.code C45_11, .inBlock 0, .code C45_2] (some (.int .i64 x0_203) :: some (.int .i64 x1_204) :: nn 42 []) M
theorem p45_0_eq (x0_1 : Int) (x1_2 : Int) (M : Mem) : p45_0 call meth x0_1 x1_2 M = (cond ((IntKind.wrap .i64 ((BitVec.ofInt (IntKind.bits .i64) x0_1 &&& BitVec.ofInt (IntKind.bits .i64) 32).toNat)) != 0) (some (.bool true, M)) (p45_1 call meth x0_1 x1_2 M)) :=
  (seg_run false call meth F45.results 100000 [.code C45_16] _ M).symm.trans (by kernel_rfl)
theorem p45_1_eq (x0_101 : Int) (x1_102 : Int) (M : Mem) : p45_1 call meth x0_101 x1_102 M = (cond ((IntKind.wrap .i64 ((BitVec.ofInt (IntKind.bits .i64) x0_101 &&& BitVec.ofInt (IntKind.bits .i64) 64).toNat)) != 0) (Option.bind (call 57 [.int .i64 x1_102, .int .i64 0, .int .i64 63] Mem.empty) fun r201 => (Option.bind (r201.1.bool?) fun x202 => (some (.bool x202, M)))) (p45_2 call meth x0_101 x1_102 M)) :=
  (seg_run false call meth F45.results 100000 [.code C45_13, .inBlock 0, .code C45_2] _ M).symm.trans (by kernel_rfl)
theorem p45_2_eq (x0_203 : Int) (x1_204 : Int) (M : Mem) : p45_2 call meth x0_203 x1_204 M = (cond ((IntKind.wrap .i64 ((BitVec.ofInt (IntKind.bits .i64) x0_203 &&& BitVec.ofInt (IntKind.bits .i64) 128).toNat)) != 0) (Option.bind (call 57 [.int .i64 x1_204, .int .i64 1, .int .i64 8] Mem.empty) fun r301 => (Option.bind (r301.1.bool?) fun x302 => (cond x302 (some (.bool ((IntKind.wrap .i64 ((BitVec.ofInt (IntKind.bits .i64) x1_204 &&& BitVec.ofInt (IntKind.bits .i64) (IntKind.wrap .i64 (x1_204 - 1))).toNat)) == 0), M)) (some (.bool false, M))))) (cond ((IntKind.wrap .i64 ((BitVec.ofInt (IntKind.bits .i64) x0_203 &&& BitVec.ofInt (IntKind.bits .i64) 256).toNat)) != 0) (Option.bind (call 57 [.int .i64 x1_204, .int .i64 1, .int .i64 16] Mem.empty) fun r303 => (Option.bind (r303.1.bool?) fun x304 => (some (.bool x304, M)))) (cond ((IntKind.wrap .i64 ((BitVec.ofInt (IntKind.bits .i64) x0_203 &&& BitVec.ofInt (IntKind.bits .i64) 512).toNat)) != 0) (Option.bind (call 58 [.int .i32 (IntKind.wrap .i32 x1_204)] Mem.empty) fun r305 => (Option.bind (r305.1.int? .i64) fun x306 => (some (.bool (decide (x306 > 0)), M)))) (some (.bool (x1_204 == 0), M))))) :=
  (seg_run false call meth F45.results 100000 [.code C45_11, .inBlock 0, .code C45_2] _ M).symm.trans (by kernel_rfl)
theorem run45 (x0_1 : Int) (x1_2 : Int) (M : Mem) : run false call meth F45.results [.code F45.body] (frame0 F45 [.int .i64 x0_1, .int .i64 x1_2]) M = p45_0 call meth x0_1 x1_2 M := by kernel_rfl
theorem ok45 : okFn Try.prog 45 F45 = true := by kernel_rfl
def C46_1 : AC := .ret
def C46_2 : AC := .seq (.reg (.o 2 (.mov (.c (.str ⟨#[]⟩))) (.o 3 (.mov (.c (.bool false))) .nil)) []) C46_1
def C46_3 : AC := .ret
def C46_4 : AC := .ret
def C46_5 : AC := .ret
def C46_6 : AC := .ret
def C46_7 : AC := .ret
def C46_8 : AC := .ret
def C46_9 : AC := .ret
def C46_10 : AC := .ret
def C46_11 : AC := .ret
def C46_12 : AC := .ret
def C46_13 : AC := .ret
def C46_14 : AC := .ret
def C46_15 : AC := .ret
def C46_16 : AC := .cond (.t 52) (.seq (.reg (.o 2 (.mov (.c (.str ⟨#[99]⟩))) (.o 3 (.mov (.c (.bool true))) .nil)) []) C46_15) .skip
def C46_17 : AC := .cond (.t 49) (.seq (.reg (.o 2 (.mov (.c (.str ⟨#[]⟩))) (.o 3 (.mov (.c (.bool true))) .nil)) []) C46_14) (.seq (.reg (.o 53 (.bin .eql (.t 4) (.c (.int .u8 35))) (.o 52 (.mov (.t 53)) .nil)) []) C46_16)
def C46_18 : AC := .kil (0 :: 1 :: 2 :: 3 :: rg 5 44 (50 :: 51 :: 52 :: 53 :: [])) (.pt C46_17)
def C46_19 : AC := .cond (.t 49) .skip (.reg (.o 51 (.bin .eql (.t 4) (.c (.int .u8 36))) (.o 49 (.mov (.t 51)) .nil)) [])
def C46_20 : AC := .cond (.t 47) (.seq (.reg (.o 2 (.mov (.c (.str ⟨#[114]⟩))) (.o 3 (.mov (.c (.bool true))) .nil)) []) C46_13) (.seq (.seq (.reg (.o 50 (.bin .eql (.t 4) (.c (.int .u8 34))) (.o 49 (.mov (.t 50)) .nil)) []) C46_19) C46_18)
def C46_21 : AC := .cond (.t 40) (.seq (.reg (.o 2 (.mov (.c (.str ⟨#[100, 115, 106]⟩))) (.o 3 (.mov (.c (.bool true))) .nil)) []) C46_12) (.seq (.reg (.o 48 (.bin .eql (.t 4) (.c (.int .u8 33))) (.o 47 (.mov (.t 48)) .nil)) []) C46_20)
def C46_22 : AC := .kil (0 :: 1 :: 2 :: 3 :: rg 5 35 (rg 41 13 [])) (.pt C46_21)
def C46_23 : AC := .cond (.t 40) .skip (.reg (.o 46 (.bin .eql (.t 4) (.c (.int .u8 32))) (.o 40 (.mov (.t 46)) .nil)) [])
def C46_24 : AC := .cond (.t 40) .skip (.seq (.reg (.o 45 (.bin .eql (.t 4) (.c (.int .u8 31))) (.o 40 (.mov (.t 45)) .nil)) []) C46_23)
def C46_25 : AC := .cond (.t 40) .skip (.seq (.reg (.o 44 (.bin .eql (.t 4) (.c (.int .u8 30))) (.o 40 (.mov (.t 44)) .nil)) []) C46_24)
def C46_26 : AC := .cond (.t 40) .skip (.seq (.reg (.o 43 (.bin .eql (.t 4) (.c (.int .u8 29))) (.o 40 (.mov (.t 43)) .nil)) []) C46_25)
def C46_27 : AC := .cond (.t 40) .skip (.seq (.reg (.o 42 (.bin .eql (.t 4) (.c (.int .u8 28))) (.o 40 (.mov (.t 42)) .nil)) []) C46_26)
def C46_28 : AC := .seq (.seq (.reg (.o 41 (.bin .eql (.t 4) (.c (.int .u8 27))) (.o 40 (.mov (.t 41)) .nil)) []) C46_27) C46_22
def C46_29 : AC := .cond (.t 35) (.seq (.reg (.o 2 (.mov (.c (.str ⟨#[100, 106, 105]⟩))) (.o 3 (.mov (.c (.bool true))) .nil)) []) C46_11) (.kil (0 :: 1 :: 2 :: 3 :: rg 5 49 []) (.pt C46_28))
def C46_30 : AC := .kil (0 :: 1 :: 2 :: 3 :: rg 5 30 (rg 36 18 [])) (.pt C46_29)
def C46_31 : AC := .cond (.t 35) .skip (.reg (.o 39 (.bin .eql (.t 4) (.c (.int .u8 26))) (.o 35 (.mov (.t 39)) .nil)) [])
def C46_32 : AC := .cond (.t 35) .skip (.seq (.reg (.o 38 (.bin .eql (.t 4) (.c (.int .u8 25))) (.o 35 (.mov (.t 38)) .nil)) []) C46_31)
def C46_33 : AC := .cond (.t 35) .skip (.seq (.reg (.o 37 (.bin .eql (.t 4) (.c (.int .u8 24))) (.o 35 (.mov (.t 37)) .nil)) []) C46_32)
def C46_34 : AC := .seq (.seq (.reg (.o 36 (.bin .eql (.t 4) (.c (.int .u8 23))) (.o 35 (.mov (.t 36)) .nil)) []) C46_33) C46_30
def C46_35 : AC := .cond (.t 33) (.seq (.reg (.o 2 (.mov (.c (.str ⟨#[106]⟩))) (.o 3 (.mov (.c (.bool true))) .nil)) []) C46_10) (.kil (0 :: 1 :: 2 :: 3 :: rg 5 49 []) (.pt C46_34))
def C46_36 : AC := .cond (.t 31) (.seq (.reg (.o 2 (.mov (.c (.str ⟨#[100, 112]⟩))) (.o 3 (.mov (.c (.bool true))) .nil)) []) C46_9) (.seq (.reg (.o 34 (.bin .eql (.t 4) (.c (.int .u8 22))) (.o 33 (.mov (.t 34)) .nil)) []) C46_35)
def C46_37 : AC := .cond (.t 29) (.seq (.reg (.o 2 (.mov (.c (.str ⟨#[115, 112]⟩))) (.o 3 (.mov (.c (.bool true))) .nil)) []) C46_8) (.seq (.reg (.o 32 (.bin .eql (.t 4) (.c (.int .u8 21))) (.o 31 (.mov (.t 32)) .nil)) []) C46_36)
def C46_38 : AC := .cond (.t 26) (.seq (.reg (.o 2 (.mov (.c (.str ⟨#[100, 115, 111, 119]⟩))) (.o 3 (.mov (.c (.bool true))) .nil)) []) C46_7) (.seq (.reg (.o 30 (.bin .eql (.t 4) (.c (.int .u8 20))) (.o 29 (.mov (.t 30)) .nil)) []) C46_37)
def C46_39 : AC := .kil (0 :: 1 :: 2 :: 3 :: rg 5 21 (rg 27 27 [])) (.pt C46_38)
def C46_40 : AC := .cond (.t 26) .skip (.reg (.o 28 (.bin .eql (.t 4) (.c (.int .u8 19))) (.o 26 (.mov (.t 28)) .nil)) [])
def C46_41 : AC := .seq (.seq (.reg (.o 27 (.bin .eql (.t 4) (.c (.int .u8 18))) (.o 26 (.mov (.t 27)) .nil)) []) C46_40) C46_39
def C46_42 : AC := .cond (.t 21) (.seq (.reg (.o 2 (.mov (.c (.str ⟨#[100]⟩))) (.o 3 (.mov (.c (.bool true))) .nil)) []) C46_6) (.kil (0 :: 1 :: 2 :: 3 :: rg 5 49 []) (.pt C46_41))
def C46_43 : AC := .kil (0 :: 1 :: 2 :: 3 :: rg 5 16 (rg 22 32 [])) (.pt C46_42)
def C46_44 : AC := .cond (.t 21) .skip (.reg (.o 25 (.bin .eql (.t 4) (.c (.int .u8 17))) (.o 21 (.mov (.t 25)) .nil)) [])
def C46_45 : AC := .cond (.t 21) .skip (.seq (.reg (.o 24 (.bin .eql (.t 4) (.c (.int .u8 16))) (.o 21 (.mov (.t 24)) .nil)) []) C46_44)
def C46_46 : AC := .cond (.t 21) .skip (.seq (.reg (.o 23 (.bin .eql (.t 4) (.c (.int .u8 15))) (.o 21 (.mov (.t 23)) .nil)) []) C46_45)
def C46_47 : AC := .seq (.seq (.reg (.o 22 (.bin .eql (.t 4) (.c (.int .u8 14))) (.o 21 (.mov (.t 22)) .nil)) []) C46_46) C46_43
def C46_48 : AC := .cond (.t 18) (.seq (.reg (.o 2 (.mov (.c (.str ⟨#[100, 98]⟩))) (.o 3 (.mov (.c (.bool true))) .nil)) []) C46_5) (.kil (0 :: 1 :: 2 :: 3 :: rg 5 49 []) (.pt C46_47))
def C46_49 : AC := .kil (0 :: 1 :: 2 :: 3 :: rg 5 13 (rg 19 35 [])) (.pt C46_48)
def C46_50 : AC := .cond (.t 18) .skip (.reg (.o 20 (.bin .eql (.t 4) (.c (.int .u8 13))) (.o 18 (.mov (.t 20)) .nil)) [])
def C46_51 : AC := .seq (.seq (.reg (.o 19 (.bin .eql (.t 4) (.c (.int .u8 12))) (.o 18 (.mov (.t 19)) .nil)) []) C46_50) C46_49
def C46_52 : AC := .cond (.t 10) (.seq (.reg (.o 2 (.mov (.c (.str ⟨#[100, 115]⟩))) (.o 3 (.mov (.c (.bool true))) .nil)) []) C46_4) (.kil (0 :: 1 :: 2 :: 3 :: rg 5 49 []) (.pt C46_51))
def C46_53 : AC := .kil (0 :: 1 :: 2 :: 3 :: rg 5 5 (rg 11 43 [])) (.pt C46_52)
def C46_54 : AC := .cond (.t 10) .skip (.reg (.o 17 (.bin .eql (.t 4) (.c (.int .u8 11))) (.o 10 (.mov (.t 17)) .nil)) [])
def C46_55 : AC := .cond (.t 10) .skip (.seq (.reg (.o 16 (.bin .eql (.t 4) (.c (.int .u8 10))) (.o 10 (.mov (.t 16)) .nil)) []) C46_54)
def C46_56 : AC := .cond (.t 10) .skip (.seq (.reg (.o 15 (.bin .eql (.t 4) (.c (.int .u8 9))) (.o 10 (.mov (.t 15)) .nil)) []) C46_55)
def C46_57 : AC := .cond (.t 10) .skip (.seq (.reg (.o 14 (.bin .eql (.t 4) (.c (.int .u8 7))) (.o 10 (.mov (.t 14)) .nil)) []) C46_56)
def C46_58 : AC := .cond (.t 10) .skip (.seq (.reg (.o 13 (.bin .eql (.t 4) (.c (.int .u8 5))) (.o 10 (.mov (.t 13)) .nil)) []) C46_57)
def C46_59 : AC := .cond (.t 10) .skip (.seq (.reg (.o 12 (.bin .eql (.t 4) (.c (.int .u8 4))) (.o 10 (.mov (.t 12)) .nil)) []) C46_58)
def C46_60 : AC := .seq (.seq (.reg (.o 11 (.bin .eql (.t 4) (.c (.int .u8 2))) (.o 10 (.mov (.t 11)) .nil)) []) C46_59) C46_53
def C46_61 : AC := .cond (.t 5) (.seq (.reg (.o 2 (.mov (.c (.str ⟨#[100, 105]⟩))) (.o 3 (.mov (.c (.bool true))) .nil)) []) C46_3) (.kil (0 :: 1 :: 2 :: 3 :: rg 5 49 []) (.pt C46_60))
def C46_62 : AC := .kil (0 :: 1 :: 2 :: 3 :: rg 6 48 []) (.pt C46_61)
def C46_63 : AC := .cond (.t 5) .skip (.reg (.o 9 (.bin .eql (.t 4) (.c (.int .u8 8))) (.o 5 (.mov (.t 9)) .nil)) [])
def C46_64 : AC := .cond (.t 5) .skip (.seq (.reg (.o 8 (.bin .eql (.t 4) (.c (.int .u8 6))) (.o 5 (.mov (.t 8)) .nil)) []) C46_63)
def C46_65 : AC := .cond (.t 5) .skip (.seq (.reg (.o 7 (.bin .eql (.t 4) (.c (.int .u8 3))) (.o 5 (.mov (.t 7)) .nil)) []) C46_64)
def C46_66 : AC := .block 0 (.seq (.seq (.reg (.o 6 (.bin .eql (.t 4) (.c (.int .u8 1))) (.o 5 (.mov (.t 6)) .nil)) []) C46_65) C46_62)
def C46_67 : AC := .seq (.seq (.reg (.o 4 (.mov (.t 0)) .nil) []) C46_66) C46_2
def C46_68 : AC := .seq (.reg (.o 2 (.mov (.c (.str ⟨#[]⟩))) (.o 3 (.mov (.c (.bool false))) .nil)) []) C46_67
def F46 : AFunc := { ntmps := 54, results := [.tmp 2, .tmp 3], body := C46_68 }
def p46_0 (x0_1 : Int) (M : Mem) : Rs := run false call meth F46.results [.code C46_68] (some (.int .u8 x0_1) :: nn 53 []) M
def p46_1 (x4_101 : Int) (x5_102 : Bool) (M : Mem) : Rs := run false call meth F46.results [.code C46_61, .inBlock 0, .code C46_2] (nn 4 (some (.int .u8 x4_101) :: some (.bool x5_102) :: nn 48 [])) M
def p46_2 (x4_201 : Int) (M : Mem) : Rs := run false call meth F46.results [.code C46_60, .inBlock 0, .code C46_2] (nn 4 (some (.int .u8 x4_201) :: nn 49 [])) M
def p46_3 (x4_301 : Int) (x10_302 : Bool) (M : Mem) : Rs := run false call meth F46.results [.code C46_52, .inBlock 0, .code C46_2] (nn 4 (some (.int .u8 x4_301) :: nn 5 (some (.bool x10_302) :: nn 43 []))) M
def p46_4 (x4_401 : Int) (M : Mem) : Rs := run false call meth F46.results [.code C46_51, .inBlock 0, .code C46_2] (nn 4 (some (.int .u8 x4_401) :: nn 49 [])) M
def p46_5 (x4_501 : Int) (x18_502 : Bool) (M : Mem) : Rs := run false call meth F46.results [.code C46_48, .inBlock 0, .code C46_2] (nn 4 (some (.int .u8 x4_501) :: nn 13 (some (.bool x18_502) :: nn 35 []))) M
def p46_6 (x4_601 : Int) (M : Mem) : Rs := run false call meth F46.results [.code C46_47, .inBlock 0, .code C46_2] (nn 4 (some (.int .u8 x4_601) :: nn 49 [])) M
def p46_7 (x4_701 : Int) (x21_702 : Bool) (M : Mem) : Rs := run false call meth F46.results [.code C46_42, .inBlock 0, .code C46_2] (nn 4 (some (.int .u8 x4_701) :: nn 16 (some (.bool x21_702) :: nn 32 []))) M
def p46_8 (x4_801 : Int) (M : Mem) : Rs := run false call meth F46.results [.code C46_41, .inBlock 0, .code C46_2] (nn 4 (some (.int .u8 x4_801) :: nn 49 [])) M
def p46_9 (x4_901 : Int) (x26_902 : Bool) (M : Mem) : Rs := run false call meth F46.results [.code C46_38, .inBlock 0, .code C46_2] (nn 4 (some (.int .u8 x4_901) :: nn 21 (some (.bool x26_902) :: nn 27 []))) M
def p46_10 (x4_1001 : Int) (M : Mem) : Rs := run false call meth F46.results [.code C46_34, .inBlock 0, .code C46_2] (nn 4 (some (.int .u8 x4_1001) :: nn 49 [])) M
def p46_11 (x4_1101 : Int) (x35_1102 : Bool) (M : Mem) : Rs := run false call meth F46.results [.code C46_29, .inBlock 0, .code C46_2] (nn 4 (some (.int .u8 x4_1101) :: nn 30 (some (.bool x35_1102) :: nn 18 []))) M
def p46_12 (x4_1201 : Int) (M : Mem) : Rs := run false call meth F46.results [.code C46_28, .inBlock 0, .code C46_2] (nn 4 (some (.int .u8 x4_1201) :: nn 49 [])) M
def p46_13 (x4_1301 : Int) (x40_1302 : Bool) (M : Mem) : Rs := run false call meth F46.results [.code C46_21, .inBlock 0, .code C46_2] (nn 4 (some (.int .u8 x4_1301) :: nn 35 (some (.bool x40_1302) :: nn 13 []))) M
def p46_14 (x4_1401 : Int) (x49_1402 : Bool) (M : Mem) : Rs := run false call meth F46.results [.code C46_17, .inBlock 0, .code C46_2] (nn 4 (some (.int .u8 x4_1401) :: nn 44 (some (.bool x49_1402) :: nn 4 []))) M
theorem p46_0_eq (x0_1 : Int) (M : Mem) : p46_0 call meth x0_1 M = (cond (x0_1 == 1) (p46_1 call meth x0_1 (x0_1 == 1) M) (cond (x0_1 == 3) (p46_1 call meth x0_1 (x0_1 == 3) M) (cond (x0_1 == 6) (p46_1 call meth x0_1 (x0_1 == 6) M) (p46_1 call meth x0_1 (x0_1 == 8) M)))) :=
  (seg_run false call meth F46.results 100000 [.code C46_68] _ M).symm.trans (by kernel_rfl)
theorem p46_1_eq (x4_101 : Int) (x5_102 : Bool) (M : Mem) : p46_1 call meth x4_101 x5_102 M = (cond x5_102 (some (.tup [.str (⟨#[100, 105]⟩ : ByteArray), .bool true], M)) (p46_2 call meth x4_101 M)) :=
  (seg_run false call meth F46.results 100000 [.code C46_61, .inBlock 0, .code C46_2] _ M).symm.trans (by kernel_rfl)
theorem p46_2_eq (x4_201 : Int) (M : Mem) : p46_2 call meth x4_201 M = (cond (x4_201 == 2) (p46_3 call meth x4_201 (x4_201 == 2) M) (cond (x4_201 == 4) (p46_3 call meth x4_201 (x4_201 == 4) M) (cond (x4_201 == 5) (p46_3 call meth x4_201 (x4_201 == 5) M) (cond (x4_201 == 7) (p46_3 call meth x4_201 (x4_201 == 7) M) (cond (x4_201 == 9) (p46_3 call meth x4_201 (x4_201 == 9) M) (cond (x4_201 == 10) (p46_3 call meth x4_201 (x4_201 == 10) M) (p46_3 call meth x4_201 (x4_201 == 11) M))))))) :=
  (seg_run false call meth F46.results 100000 [.code C46_60, .inBlock 0, .code C46_2] _ M).symm.trans (by kernel_rfl)
theorem p46_3_eq (x4_301 : Int) (x10_302 : Bool) (M : Mem) : p46_3 call meth x4_301 x10_302 M = (cond x10_302 (some (.tup [.str (⟨#[100, 115]⟩ : ByteArray), .bool true], M)) (p46_4 call meth x4_301 M)) :=
  (seg_run false call meth F46.results 100000 [.code C46_52, .inBlock 0, .code C46_2] _ M).symm.trans (by kernel_rfl)
theorem p46_4_eq (x4_401 : Int) (M : Mem) : p46_4 call meth x4_401 M = (cond (x4_401 == 12) (p46_5 call meth x4_401 (x4_401 == 12) M) (p46_5 call meth x4_401 (x4_401 == 13) M)) :=
  (seg_run false call meth F46.results 100000 [.code C46_51, .inBlock 0, .code C46_2] _ M).symm.trans (by kernel_rfl)
theorem p46_5_eq (x4_501 : Int) (x18_502 : Bool) (M : Mem) : p46_5 call meth x4_501 x18_502 M = (cond x18_502 (some (.tup [.str (⟨#[100, 98]⟩ : ByteArray), .bool true], M)) (p46_6 call meth x4_501 M)) :=
  (seg_run false call meth F46.results 100000 [.code C46_48, .inBlock 0, .code C46_2] _ M).symm.trans (by kernel_rfl)
theorem p46_6_eq (x4_601 : Int) (M : Mem) : p46_6 call meth x4_601 M = (cond (x4_601 == 14) (p46_7 call meth x4_601 (x4_601 == 14) M) (cond (x4_601 == 15) (p46_7 call meth x4_601 (x4_601 == 15) M) (cond (x4_601 == 16) (p46_7 call meth x4_601 (x4_601 == 16) M) (p46_7 call meth x4_601 (x4_601 == 17) M)))) :=
  (seg_run false call meth F46.results 100000 [.code C46_47, .inBlock 0, .code C46_2] _ M).symm.trans (by kernel_rfl)
theorem p46_7_eq (x4_701 : Int) (x21_702 : Bool) (M : Mem) : p46_7 call meth x4_701 x21_702 M = (cond x21_702 (some (.tup [.str (⟨#[100]⟩ : ByteArray), .bool true], M)) (p46_8 call meth x4_701 M)) :=
  (seg_run false call meth F46.results 100000 [.code C46_42, .inBlock 0, .code C46_2] _ M).symm.trans (by kernel_rfl)
theorem p46_8_eq (x4_801 : Int) (M : Mem) : p46_8 call meth x4_801 M = (cond (x4_801 == 18) (p46_9 call meth x4_801 (x4_801 == 18) M) (p46_9 call meth x4_801 (x4_801 == 19) M)) :=
  (seg_run false call meth F46.results 100000 [.code C46_41, .inBlock 0, .code C46_2] _ M).symm.trans (by kernel_rfl)
theorem p46_9_eq (x4_901 : Int) (x26_902 : Bool) (M : Mem) : p46_9 call meth x4_901 x26_902 M = (cond x26_902 (some (.tup [.str (⟨#[100, 115, 111, 119]⟩ : ByteArray), .bool true], M)) (cond (x4_901 == 20) (some (.tup [.str (⟨#[115, 112]⟩ : ByteArray), .bool true], M)) (cond (x4_901 == 21) (some (.tup [.str (⟨#[100, 112]⟩ : ByteArray), .bool true], M)) (cond (x4_901 == 22) (some (.tup [.str (⟨#[106]⟩ : ByteArray), .bool true], M)) (p46_10 call meth x4_901 M))))) :=
  (seg_run false call meth F46.results 100000 [.code C46_38, .inBlock 0, .code C46_2] _ M).symm.trans (by kernel_rfl)
theorem p46_10_eq (x4_1001 : Int) (M : Mem) : p46_10 call meth x4_1001 M = (cond (x4_1001 == 23) (p46_11 call meth x4_1001 (x4_1001 == 23) M) (cond (x4_1001 == 24) (p46_11 call meth x4_1001 (x4_1001 == 24) M) (cond (x4_1001 == 25) (p46_11 call meth x4_1001 (x4_1001 == 25) M) (p46_11 call meth x4_1001 (x4_1001 == 26) M)))) :=
  (seg_run false call meth F46.results 100000 [.code C46_34, .inBlock 0, .code C46_2] _ M).symm.trans (by kernel_rfl)
theorem p46_11_eq (x4_1101 : Int) (x35_1102 : Bool) (M : Mem) : p46_11 call meth x4_1101 x35_1102 M = (cond x35_1102 (some (.tup [.str (⟨#[100, 106, 105]⟩ : ByteArray), .bool true], M)) (p46_12 call meth x4_1101 M)) :=
  (seg_run false call meth F46.results 100000 [.code C46_29, .inBlock 0, .code C46_2] _ M).symm.trans (by kernel_rfl)
theorem p46_12_eq (x4_1201 : Int) (M : Mem) : p46_12 call meth x4_1201 M = (cond (x4_1201 == 27) (p46_13 call meth x4_1201 (x4_1201 == 27) M) (cond (x4_1201 == 28) (p46_13 call meth x4_1201 (x4_1201 == 28) M) (cond (x4_1201 == 29) (p46_13 call meth x4_1201 (x4_1201 == 29) M) (cond (x4_1201 == 30) (p46_13 call meth x4_1201 (x4_1201 == 30) M) (cond (x4_1201 == 31) (p46_13 call meth x4_1201 (x4_1201 == 31) M) (p46_13 call meth x4_1201 (x4_1201 == 32) M)))))) :=
  (seg_run false call meth F46.results 100000 [.code C46_28, .inBlock 0, .code C46_2] _ M).symm.trans (by kernel_rfl)
theorem p46_13_eq (x4_1301 : Int) (x40_1302 : Bool) (M : Mem) : p46_13 call meth x4_1301 x40_1302 M = (cond x40_1302 (some (.tup [.str (⟨#[100, 115, 106]⟩ : ByteArray), .bool true], M)) (cond (x4_1301 == 33) (some (.tup [.str (⟨#[114]⟩ : ByteArray), .bool true], M)) (cond (x4_1301 == 34) (p46_14 call meth x4_1301 (x4_1301 == 34) M) (p46_14 call meth x4_1301 (x4_1301 == 36) M)))) :=
  (seg_run false call meth F46.results 100000 [.code C46_21, .inBlock 0, .code C46_2] _ M).symm.trans (by kernel_rfl)
theorem p46_14_eq (x4_1401 : Int) (x49_1402 : Bool) (M : Mem) : p46_14 call meth x4_1401 x49_1402 M = (cond x49_1402 (some (.tup [.str (⟨#[]⟩ : ByteArray), .bool true], M)) (cond (x4_1401 == 35) (some (.tup [.str (⟨#[99]⟩ : ByteArray), .bool true], M)) (some (.tup [.str (⟨#[]⟩ : ByteArray), .bool false], M)))) :=
  (seg_run false call meth F46.results 100000 [.code C46_17, .inBlock 0, .code C46_2] _ M).symm.trans (by kernel_rfl)
theorem run46 (x0_1 : Int) (M : Mem) : run false call meth F46.results [.code F46.body] (frame0 F46 [.int .u8 x0_1]) M = p46_0 call meth x0_1 M := by kernel_rfl
theorem ok46 : okFn Try.prog 46 F46 = true := by kernel_rfl
def C47_1 : AC := .ret
def C47_2 : AC := .seq (.reg (.o 4 (.mov (.c (.bool false))) .nil) []) C47_1
def C47_3 : AC := .reg (.o 10 (.mov (.t 5)) (.o 11 (.bin .add (.t 10) (.c (.int .i64 1))) (.o 5 (.mov (.t 11)) .nil))) []
def C47_4 : AC := .ret
def C47_5 : AC := .cond (.t 16) (.seq (.reg (.o 4 (.mov (.c (.bool true))) .nil) []) C47_4) .skip
def C47_6 : AC := .seq (.block 1 (.seq (.reg (.o 12 (.mov (.t 0)) (.o 13 (.mov (.t 5)) (.o 14 (.ixStr (.t 12) (.t 13)) (.o 15 (.mov (.t 1)) (.o 16 (.bin .eql (.t 14) (.t 15)) .nil))))) []) C47_5)) C47_3
def C47_7 : AC := .cond (.t 9) .skip (.exit 0)
def C47_8 : AC := .seq (.seq (.reg (.o 6 (.mov (.t 5)) (.o 7 (.mov (.t 0)) (.o 8 (.lenStr (.t 7)) (.o 9 (.bin .lss (.t 6) (.t 8)) .nil)))) []) C47_7) C47_6
def C47_9 : AC := .kil (2 :: 3 :: 4 :: rg 6 11 []) (.pt C47_8)
def C47_10 : AC := .block 0 (.loop C47_9)
def C47_11 : AC := .seq (.seq (.reg (.o 5 (.mov (.c (.int .i64 0))) .nil) []) C47_10) C47_2
def C47_12 : AC := .seq (.reg (.o 4 (.mov (.c (.bool false))) .nil) []) C47_11
def F47 : AFunc := { ntmps := 17, results := [.tmp 4], body := C47_12 }
def p47_0 (x0_1 : ByteArray) (x1_2 : Int) (M : Mem) : Rs := run false call meth F47.results [.code C47_12] (some (.str x0_1) :: some (.int .u8 x1_2) :: nn 15 []) M
def p47_1 (x0_101 : ByteArray) (x1_102 : Int) (x5_103 : Int) (M : Mem) : Rs := run false call meth F47.results [.code C47_8, .inLoop C47_9, .inBlock 0, .code C47_2] (some (.str x0_101) :: some (.int .u8 x1_102) :: none :: none :: none :: some (.int .i64 x5_103) :: nn 11 []) M
theorem p47_0_eq (x0_1 : ByteArray) (x1_2 : Int) (M : Mem) : p47_0 call meth x0_1 x1_2 M = (p47_1 call meth x0_1 x1_2 0 M) :=
  (seg_run false call meth F47.results 100000 [.code C47_12] _ M).symm.trans (by kernel_rfl)
theorem p47_1_eq (x0_101 : ByteArray) (x1_102 : Int) (x5_103 : Int) (M : Mem) : p47_1 call meth x0_101 x1_102 x5_103 M = (cond (decide (x5_103 < ((x0_101.size : Nat) : Int))) (cond (decide (0 ≤ x5_103)) (Option.bind (x0_101.data.toList[x5_103.toNat]?) fun b201 => (cond (((b201.toNat : Nat) : Int) == x1_102) (some (.bool true, M)) (p47_1 call meth x0_101 x1_102 (IntKind.wrap .i64 (x5_103 + 1)) M))) none) (some (.bool false, M))) :=
  (seg_run false call meth F47.results 100000 [.code C47_8, .inLoop C47_9, .inBlock 0, .code C47_2] _ M).symm.trans (by kernel_rfl)
theorem run47 (x0_1 : ByteArray) (x1_2 : Int) (M : Mem) : run false call meth F47.results [.code F47.body] (frame0 F47 [.str x0_1, .int .u8 x1_2]) M = p47_0 call meth x0_1 x1_2 M := by kernel_rfl
theorem ok47 : okFn Try.prog 47 F47 = true := by kernel_rfl
def C48_1 : AC := .ret
def C48_2 : AC := .seq (.reg (.o 18 (.mov (.t 1)) (.o 19 (.bin .eql (.t 18) (.c (.int .i64 0))) (.o 4 (.mov (.t 19)) .nil))) []) C48_1
def C48_3 : AC := .ret
def C48_4 : AC := .ret
def C48_5 : AC := .ret
def C48_6 : AC := .cond (.t 13) (.seq (.reg (.o 16 (.mov (.t 1)) (.o 17 (.callP 59 [(.t 16), (.c (.int .i64 0)), (.c (.int .i64 255))] (.r (.one .bool))) (.o 4 (.mov (.t 17)) .nil))) []) C48_5) .skip
def C48_7 : AC := .cond (.t 8) (.seq (.reg (.o 11 (.mov (.t 1)) (.o 12 (.callP 59 [(.t 11), (.c (.int .i64 0)), (.c (.int .i64 7))] (.r (.one .bool))) (.o 4 (.mov (.t 12)) .nil))) []) C48_4) (.seq (.reg (.o 14 (.mov (.t 0)) (.o 15 (.callP 47 [(.t 14), (.c (.int .u8 106))] (.r (.one .bool))) (.o 13 (.mov (.t 15)) .nil))) []) C48_6)
def C48_8 : AC := .cond (.t 5) (.seq (.reg (.o 4 (.mov (.c (.bool true))) .nil) []) C48_3) (.seq (.reg (.o 9 (.mov (.t 0)) (.o 10 (.callP 47 [(.t 9), (.c (.int .u8 112))] (.r (.one .bool))) (.o 8 (.mov (.t 10)) .nil))) []) C48_7)
def C48_9 : AC := .seq (.block 0 (.seq (.reg (.o 6 (.mov (.t 0)) (.o 7 (.callP 47 [(.t 6), (.c (.int .u8 111))] (.r (.one .bool))) (.o 5 (.mov (.t 7)) .nil))) []) C48_8)) C48_2
def C48_10 : AC := .seq (.reg (.o 4 (.mov (.c (.bool false))) .nil) []) C48_9
def F48 : AFunc := { ntmps := 20, results := [.tmp 4], body := C48_10 }
def p48_0 (x0_1 : ByteArray) (x1_2 : Int) (M : Mem) : Rs := run false call meth F48.results [.code C48_10] (some (.str x0_1) :: some (.int .i64 x1_2) :: nn 18 []) M
theorem p48_0_eq (x0_1 : ByteArray) (x1_2 : Int) (M : Mem) : p48_0 call meth x0_1 x1_2 M = (Option.bind (call 47 [.str x0_1, .int .u8 111] Mem.empty) fun r101 => (Option.bind (r101.1.bool?) fun x102 => (cond x102 (some (.bool true, M)) (Option.bind (call 47 [.str x0_1, .int .u8 112] Mem.empty) fun r103 => (Option.bind (r103.1.bool?) fun x104 => (cond x104 (Option.bind (call 59 [.int .i64 x1_2, .int .i64 0, .int .i64 7] Mem.empty) fun r105 => (Option.bind (r105.1.bool?) fun x106 => (some (.bool x106, M)))) (Option.bind (call 47 [.str x0_1, .int .u8 106] Mem.empty) fun r107 => (Option.bind (r107.1.bool?) fun x108 => (cond x108 (Option.bind (call 59 [.int .i64 x1_2, .int .i64 0, .int .i64 255] Mem.empty) fun r109 => (Option.bind (r109.1.bool?) fun x110 => (some (.bool x110, M)))) (some (.bool (x1_2 == 0), M))))))))))) :=
  (seg_run false call meth F48.results 100000 [.code C48_10] _ M).symm.trans (by kernel_rfl)
theorem run48 (x0_1 : ByteArray) (x1_2 : Int) (M : Mem) : run false call meth F48.results [.code F48.body] (frame0 F48 [.str x0_1, .int .i64 x1_2]) M = p48_0 call meth x0_1 x1_2 M := by kernel_rfl
theorem ok48 : okFn Try.prog 48 F48 = true := by kernel_rfl
def C49_1 : AC := .ret
def C49_2 : AC := .seq (.reg (.o 44 (.mov (.t 1)) (.o 45 (.bin .eql (.t 44) (.c (.int .i64 0))) (.o 4 (.mov (.t 45)) .nil))) []) C49_1
def C49_3 : AC := .ret
def C49_4 : AC := .ret
def C49_5 : AC := .ret
def C49_6 : AC := .ret
def C49_7 : AC := .ret
def C49_8 : AC := .cond (.t 35) (.seq (.reg (.o 38 (.mov (.t 1)) (.o 39 (.callP 59 [(.t 38), (.c (.int .i64 1)), (.c (.int .i64 8))] (.r (.one .bool))) (.o 40 (.mov (.t 39)) (.grp 40 false (.o 41 (.mov (.t 1)) (.o 42 (.callP 59 [(.t 41), (.c (.int .i64 16)), (.c (.int .i64 23))] (.r (.one .bool))) .nil)) (.o 43 (.pick (.t 40) (.c (.bool true)) (.t 42)) (.o 4 (.mov (.t 43)) .nil)))))) []) C49_7) .skip
def C49_9 : AC := .cond (.t 30) (.seq (.reg (.o 33 (.mov (.t 1)) (.o 34 (.callP 59 [(.t 33), (.c (.int .i64 1)), (.c (.int .i64 16))] (.r (.one .bool))) (.o 4 (.mov (.t 34)) .nil))) []) C49_6) (.seq (.reg (.o 36 (.mov (.t 0)) (.o 37 (.callP 47 [(.t 36), (.c (.int .u8 99))] (.r (.one .bool))) (.o 35 (.mov (.t 37)) .nil))) []) C49_8)
def C49_10 : AC := .cond (.t 13) (.seq (.reg (.o 16 (.mov (.t 1)) (.o 17 (.bin .eql (.t 16) (.c (.int .i64 1))) (.o 18 (.mov (.t 17)) (.grp 18 false (.o 19 (.mov (.t 1)) (.o 20 (.bin .eql (.t 19) (.c (.int .i64 2))) .nil)) (.o 21 (.pick (.t 18) (.c (.bool true)) (.t 20)) (.o 22 (.mov (.t 21)) (.grp 22 false (.o 23 (.mov (.t 1)) (.o 24 (.bin .eql (.t 23) (.c (.int .i64 4))) .nil)) (.o 25 (.pick (.t 22) (.c (.bool true)) (.t 24)) (.o 26 (.mov (.t 25)) (.grp 26 false (.o 27 (.mov (.t 1)) (.o 28 (.bin .eql (.t 27) (.c (.int .i64 8))) .nil)) (.o 29 (.pick (.t 26) (.c (.bool true)) (.t 28)) (.o 4 (.mov (.t 29)) .nil)))))))))))) []) C49_5) (.seq (.reg (.o 31 (.mov (.t 0)) (.o 32 (.callP 47 [(.t 31), (.c (.int .u8 114))] (.r (.one .bool))) (.o 30 (.mov (.t 32)) .nil))) []) C49_9)
def C49_11 : AC := .cond (.t 8) (.seq (.reg (.o 11 (.mov (.t 1)) (.o 12 (.callP 59 [(.t 11), (.c (.int .i64 0)), (.c (.int .i64 63))] (.r (.one .bool))) (.o 4 (.mov (.t 12)) .nil))) []) C49_4) (.seq (.reg (.o 14 (.mov (.t 0)) (.o 15 (.callP 47 [(.t 14), (.c (.int .u8 119))] (.r (.one .bool))) (.o 13 (.mov (.t 15)) .nil))) []) C49_10)
def C49_12 : AC := .cond (.t 5) (.seq (.reg (.o 4 (.mov (.c (.bool true))) .nil) []) C49_3) (.seq (.reg (.o 9 (.mov (.t 0)) (.o 10 (.callP 47 [(.t 9), (.c (.int .u8 98))] (.r (.one .bool))) (.o 8 (.mov (.t 10)) .nil))) []) C49_11)
def C49_13 : AC := .seq (.block 0 (.seq (.reg (.o 6 (.mov (.t 0)) (.o 7 (.callP 47 [(.t 6), (.c (.int .u8 105))] (.r (.one .bool))) (.o 5 (.mov (.t 7)) .nil))) []) C49_12)) C49_2
def C49_14 : AC := .seq (.reg (.o 4 (.mov (.c (.bool false))) .nil) []) C49_13
def F49 : AFunc := { ntmps := 46, results := [.tmp 4], body := C49_14 }
def p49_0 (x0_1 : ByteArray) (x1_2 : Int) (M : Mem) : Rs := run false call meth F49.results [.code C49_14] (some (.str x0_1) :: some (.int .i64 x1_2) :: nn 44 []) M
theorem p49_0_eq (x0_1 : ByteArray) (x1_2 : Int) (M : Mem) : p49_0 call meth x0_1 x1_2 M = (Option.bind (call 47 [.str x0_1, .int .u8 105] Mem.empty) fun r101 => (Option.bind (r101.1.bool?) fun x102 => (cond x102 (some (.bool true, M)) (Option.bind (call 47 [.str x0_1, .int .u8 98] Mem.empty) fun r103 => (Option.bind (r103.1.bool?) fun x104 => (cond x104 (Option.bind (call 59 [.int .i64 x1_2, .int .i64 0, .int .i64 63] Mem.empty) fun r105 => (Option.bind (r105.1.bool?) fun x106 => (some (.bool x106, M)))) (Option.bind (call 47 [.str x0_1, .int .u8 119] Mem.empty) fun r107 => (Option.bind (r107.1.bool?) fun x108 => (cond x108 (cond (x1_2 == 1) (some (.bool true, M)) (cond (x1_2 == 2) (some (.bool true, M)) (cond (x1_2 == 4) (some (.bool true, M)) (some (.bool (x1_2 == 8), M))))) (Option.bind (call 47 [.str x0_1, .int .u8 114] Mem.empty) fun r109 => (Option.bind (r109.1.bool?) fun x110 => (cond x110 (Option.bind (call 59 [.int .i64 x1_2, .int .i64 1, .int .i64 16] Mem.empty) fun r111 => (Option.bind (r111.1.bool?) fun x112 => (some (.bool x112, M)))) (Option.bind (call 47 [.str x0_1, .int .u8 99] Mem.empty) fun r113 => (Option.bind (r113.1.bool?) fun x114 => (cond x114 (Option.bind (call 59 [.int .i64 x1_2, .int .i64 1, .int .i64 8] Mem.empty) fun r115 => (Option.bind (r115.1.bool?) fun x116 => (cond x116 (some (.bool true, M)) (Option.bind (call 59 [.int .i64 x1_2, .int .i64 16, .int .i64 23] Mem.empty) fun r117 => (Option.bind (r117.1.bool?) fun x118 => (some (.bool x118, M))))))) (some (.bool (x1_2 == 0), M))))))))))))))))) :=
  (seg_run false call meth F49.results 100000 [.code C49_14] _ M).symm.trans (by kernel_rfl)
theorem run49 (x0_1 : ByteArray) (x1_2 : Int) (M : Mem) : run false call meth F49.results [.code F49.body] (frame0 F49 [.str x0_1, .int .i64 x1_2]) M = p49_0 call meth x0_1 x1_2 M := by kernel_rfl
theorem ok49 : okFn Try.prog 49 F49 = true := by kernel_rfl
def C57_1 : AC := .ret
def C57_2 : AC := .seq (.reg (.o 7 (.mov (.t 0)) (.o 8 (.mov (.t 1)) (.o 9 (.bin .geq (.t 7) (.t 8)) (.o 10 (.mov (.t 9)) (.grp 10 true (.o 11 (.mov (.t 0)) (.o 12 (.mov (.t 2)) (.o 13 (.bin .leq (.t 11) (.t 12)) .nil))) (.o 14 (.pick (.t 10) (.t 13) (.c (.bool false))) (.o 6 (.mov (.t 14)) .nil))))))) []) C57_1
def C57_3 : AC := .seq (.reg (.o 6 (.mov (.c (.bool false))) .nil) []) C57_2
def F57 : AFunc := { ntmps := 15, results := [.tmp 6], body := C57_3 }
def p57_0 (x0_1 : Int) (x1_2 : Int) (x2_3 : Int) (M : Mem) : Rs := run false call meth F57.results [.code C57_3] (some (.int .i64 x0_1) :: some (.int .i64 x1_2) :: some (.int .i64 x2_3) :: nn 12 []) M
theorem p57_0_eq (x0_1 : Int) (x1_2 : Int) (x2_3 : Int) (M : Mem) : p57_0 call meth x0_1 x1_2 x2_3 M = (cond (decide (x0_1 ≥ x1_2)) (some (.bool (decide (x0_1 ≤ x2_3)), M)) (some (.bool false, M))) :=
  (seg_run false call meth F57.results 100000 [.code C57_3] _ M).symm.trans (by kernel_rfl)
theorem run57 (x0_1 : Int) (x1_2 : Int) (x2_3 : Int) (M : Mem) : run false call meth F57.results [.code F57.body] (frame0 F57 [.int .i64 x0_1, .int .i64 x1_2, .int .i64 x2_3]) M = p57_0 call meth x0_1 x1_2 x2_3 M := by kernel_rfl
theorem ok57 : okFn Try.prog 57 F57 = true := by kernel_rfl
def C58_1 : AC := .ret
def C58_2 : AC := .seq (.reg (.o 2 (.mov (.c (.int .i64 0))) .nil) []) C58_1
def C58_3 : AC := .ret
def C58_4 : AC := .ret
def C58_5 : AC := .ret
def C58_6 : AC := .cond (.t 19) (.seq (.reg (.o 2 (.mov (.c (.int .i64 1))) .nil) []) C58_5) .skip
def C58_7 : AC := .cond (.t 8) (.seq (.reg (.o 2 (.mov (.c (.int .i64 3))) .nil) []) C58_4) (.seq (.reg (.o 20 (.mov (.t 0)) (.o 21 (.bin .geq (.t 20) (.c (.int .i32 3))) (.o 22 (.mov (.t 21)) (.grp 22 true (.o 23 (.mov (.t 0)) (.o 24 (.bin .leq (.t 23) (.c (.int .i32 7))) .nil)) (.o 25 (.pick (.t 22) (.t 24) (.c (.bool false))) (.o 19 (.mov (.t 25)) .nil)))))) []) C58_6)
def C58_8 : AC := .kil (rg 1 7 (rg 9 17 [])) (.pt C58_7)
def C58_9 : AC := .cond (.t 8) .skip (.reg (.o 13 (.mov (.t 0)) (.o 14 (.bin .geq (.t 13) (.c (.int .i32 16))) (.o 15 (.mov (.t 14)) (.grp 15 true (.o 16 (.mov (.t 0)) (.o 17 (.bin .lss (.t 16) (.c (.int .i32 24))) .nil)) (.o 18 (.pick (.t 15) (.t 17) (.c (.bool false))) (.o 8 (.mov (.t 18)) .nil)))))) [])
def C58_10 : AC := .cond (.t 8) .skip (.seq (.reg (.o 11 (.mov (.t 0)) (.o 12 (.bin .eql (.t 11) (.c (.int .i32 5))) (.o 8 (.mov (.t 12)) .nil))) []) C58_9)
def C58_11 : AC := .seq (.seq (.reg (.o 9 (.mov (.t 0)) (.o 10 (.bin .eql (.t 9) (.c (.int .i32 2))) (.o 8 (.mov (.t 10)) .nil))) []) C58_10) C58_8
def C58_12 : AC := .cond (.t 3) (.seq (.reg (.o 2 (.mov (.c (.int .i64 2))) .nil) []) C58_3) (.kil (rg 1 25 []) (.pt C58_11))
def C58_13 : AC := .kil (1 :: 2 :: rg 4 22 []) (.pt C58_12)
def C58_14 : AC := .cond (.t 3) .skip (.reg (.o 6 (.mov (.t 0)) (.o 7 (.bin .eql (.t 6) (.c (.int .i32 8))) (.o 3 (.mov (.t 7)) .nil))) [])
def C58_15 : AC := .seq (.block 0 (.seq (.seq (.reg (.o 4 (.mov (.t 0)) (.o 5 (.bin .eql (.t 4) (.c (.int .i32 1))) (.o 3 (.mov (.t 5)) .nil))) []) C58_14) C58_13)) C58_2
def C58_16 : AC := .seq (.reg (.o 2 (.mov (.c (.int .i64 0))) .nil) []) C58_15
def F58 : AFunc := { ntmps := 26, results := [.tmp 2], body := C58_16 }
def p58_0 (x0_1 : Int) (M : Mem) : Rs := run false call meth F58.results [.code C58_16] (some (.int .i32 x0_1) :: nn 25 []) M
def p58_1 (x0_101 : Int) (x3_102 : Bool) (M : Mem) : Rs := run false call meth F58.results [.code C58_12, .inBlock 0, .code C58_2] (some (.int .i32 x0_101) :: none :: none :: some (.bool x3_102) :: nn 22 []) M
def p58_2 (x0_201 : Int) (M : Mem) : Rs := run false call meth F58.results [.code C58_11, .inBlock 0, .code C58_2] (some (.int .i32 x0_201) :: nn 25 []) M
def p58_3 (x0_301 : Int) (x8_302 : Bool) (M : Mem) : Rs := run false call meth F58.results [.code C58_7, .inBlock 0, .code C58_2] (some (.int .i32 x0_301) :: nn 7 (some (.bool x8_302) :: nn 17 [])) M
theorem p58_0_eq (x0_1 : Int) (M : Mem) : p58_0 call meth x0_1 M = (cond (x0_1 == 1) (p58_1 call meth x0_1 (x0_1 == 1) M) (p58_1 call meth x0_1 (x0_1 == 8) M)) :=
  (seg_run false call meth F58.results 100000 [.code C58_16] _ M).symm.trans (by kernel_rfl)
theorem p58_1_eq (x0_101 : Int) (x3_102 : Bool) (M : Mem) : p58_1 call meth x0_101 x3_102 M = (cond x3_102 (some (.int .i64 2, M)) (p58_2 call meth x0_101 M)) :=
  (seg_run false call meth F58.results 100000 [.code C58_12, .inBlock 0, .code C58_2] _ M).symm.trans (by kernel_rfl)
theorem p58_2_eq (x0_201 : Int) (M : Mem) : p58_2 call meth x0_201 M = (cond (x0_201 == 2) (p58_3 call meth x0_201 (x0_201 == 2) M) (cond (x0_201 == 5) (p58_3 call meth x0_201 (x0_201 == 5) M) (cond (decide (x0_201 ≥ 16)) (p58_3 call meth x0_201 (decide (x0_201 < 24)) M) (p58_3 call meth x0_201 false M)))) :=
  (seg_run false call meth F58.results 100000 [.code C58_11, .inBlock 0, .code C58_2] _ M).symm.trans (by kernel_rfl)
theorem p58_3_eq (x0_301 : Int) (x8_302 : Bool) (M : Mem) : p58_3 call meth x0_301 x8_302 M = (cond x8_302 (some (.int .i64 3, M)) (cond (decide (x0_301 ≥ 3)) (cond (decide (x0_301 ≤ 7)) (some (.int .i64 1, M)) (some (.int .i64 0, M))) (some (.int .i64 0, M)))) :=
  (seg_run false call meth F58.results 100000 [.code C58_7, .inBlock 0, .code C58_2] _ M).symm.trans (by kernel_rfl)
theorem run58 (x0_1 : Int) (M : Mem) : run false call meth F58.results [.code F58.body] (frame0 F58 [.int .i32 x0_1]) M = p58_0 call meth x0_1 M := by kernel_rfl
theorem ok58 : okFn Try.prog 58 F58 = true := by kernel_rfl
def C59_1 : AC := .ret
def C59_2 : AC := .seq (.reg (.o 7 (.mov (.t 0)) (.o 8 (.mov (.t 1)) (.o 9 (.bin .geq (.t 7) (.t 8)) (.o 10 (.mov (.t 9)) (.grp 10 true (.o 11 (.mov (.t 0)) (.o 12 (.mov (.t 2)) (.o 13 (.bin .leq (.t 11) (.t 12)) .nil))) (.o 14 (.pick (.t 10) (.t 13) (.c (.bool false))) (.o 6 (.mov (.t 14)) .nil))))))) []) C59_1
def C59_3 : AC := .seq (.reg (.o 6 (.mov (.c (.bool false))) .nil) []) C59_2
def F59 : AFunc := { ntmps := 15, results := [.tmp 6], body := C59_3 }
def p59_0 (x0_1 : Int) (x1_2 : Int) (x2_3 : Int) (M : Mem) : Rs := run false call meth F59.results [.code C59_3] (some (.int .i64 x0_1) :: some (.int .i64 x1_2) :: some (.int .i64 x2_3) :: nn 12 []) M
theorem p59_0_eq (x0_1 : Int) (x1_2 : Int) (x2_3 : Int) (M : Mem) : p59_0 call meth x0_1 x1_2 x2_3 M = (cond (decide (x0_1 ≥ x1_2)) (some (.bool (decide (x0_1 ≤ x2_3)), M)) (some (.bool false, M))) :=
  (seg_run false call meth F59.results 100000 [.code C59_3] _ M).symm.trans (by kernel_rfl)
theorem run59 (x0_1 : Int) (x1_2 : Int) (x2_3 : Int) (M : Mem) : run false call meth F59.results [.code F59.body] (frame0 F59 [.int .i64 x0_1, .int .i64 x1_2, .int .i64 x2_3]) M = p59_0 call meth x0_1 x1_2 x2_3 M := by kernel_rfl
theorem ok59 : okFn Try.prog 59 F59 = true := by kernel_rfl
def C62_1 : AC := .ret
def C62_2 : AC := .seq (.reg (.o 29 (.loadA [.int .u8, .int .u8, .int .u8, .int .i16, .int .i32] (.t 4)) (.op none (.store 5 (.t 2) (.t 29)) (.o 3 (.mov (.c (.int .i64 0))) .nil))) []) C62_1
def C62_3 : AC := .ret
def C62_4 : AC := .cond (.t 26) (.seq (.reg (.o 27 (.build [.int .u8 0, .int .u8 0, .int .u8 0, .int .i16 0, .int .i32 0] []) (.o 28 (.mov (.t 5)) (.op none (.store 5 (.t 2) (.t 27)) (.o 3 (.mov (.t 28)) .nil)))) []) C62_3) .skip
def C62_5 : AC := .seq (.reg (.o 25 (.mov (.t 5)) (.o 26 (.bin .neq (.t 25) (.c (.int .i64 0))) .nil)) []) C62_4
def C62_6 : AC := .seq (.seq (.reg (.o 23 (.loadA [.int .u8, .int .u8, .int .u8, .int .i16, .int .i32] (.t 4)) (.o 24 (.callP 29 [(.t 23)] (.r (.one (.int .i64)))) (.o 5 (.mov (.t 24)) .nil))) []) C62_5) C62_2
def C62_7 : AC := .seq (.reg (.o 6 (.mov (.t 0)) (.o 7 (.shift .shr (.t 6) (.c (.int .u64 56))) (.o 8 (.convI .u8 (.t 7)) (.o 9 (.mov (.t 0)) (.o 10 (.shift .shr (.t 9) (.c (.int .u64 52))) (.o 11 (.bin .and (.t 10) (.c (.int .u64 15))) (.o 12 (.convI .u8 (.t 11)) (.o 13 (.mov (.t 0)) (.o 14 (.shift .shr (.t 13) (.c (.int .u64 48))) (.o 15 (.bin .and (.t 14) (.c (.int .u64 15))) (.o 16 (.convI .u8 (.t 15)) (.o 17 (.mov (.t 0)) (.o 18 (.shift .shr (.t 17) (.c (.int .u64 32))) (.o 19 (.convI .i16 (.t 18)) (.o 20 (.mov (.t 0)) (.o 21 (.convI .i32 (.t 20)) (.o 22 (.build [.int .u8 0, .int .u8 0, .int .u8 0, .int .i16 0, .int .i32 0] [(0, 1, (.t 8)), (1, 1, (.t 12)), (2, 1, (.t 16)), (3, 1, (.t 19)), (4, 1, (.t 21))]) (.o 4 (.alloc [.int .u8 0, .int .u8 0, .int .u8 0, .int .i16 0, .int .i32 0]) (.op none (.store 5 (.t 4) (.t 22)) .nil))))))))))))))))))) []) C62_6
def C62_8 : AC := .seq (.reg (.o 2 (.alloc [.int .u8 0, .int .u8 0, .int .u8 0, .int .i16 0, .int .i32 0]) (.o 3 (.mov (.c (.int .i64 0))) .nil)) []) C62_7
def F62 : AFunc := { ntmps := 30, results := [.cellA 2 [.int .u8, .int .u8, .int .u8, .int .i16, .int .i32], .tmp 3], body := C62_8 }
def p62_0 (x0_1 : Int) (M : Mem) : Rs := run false call meth F62.results [.code C62_8] (some (.int .u64 x0_1) :: nn 29 []) M
theorem p62_0_eq (x0_1 : Int) (M : Mem) : p62_0 call meth x0_1 M = (let M101 := M.alloc ⟨[.int .u8 0, .int .u8 0, .int .u8 0, .int .i16 0, .int .i32 0], .fixed⟩; (let M102 := M101.alloc ⟨[.int .u8 0, .int .u8 0, .int .u8 0, .int .i16 0, .int .i32 0], .fixed⟩; (Option.bind (M102.st M101.n 0 [.int .u8 (IntKind.wrap .u8 (Int.fdiv x0_1 (2 ^ Nat.min 56 (IntKind.bits .u64)))), .int .u8 (IntKind.wrap .u8 (IntKind.wrap .u64 ((BitVec.ofInt (IntKind.bits .u64) (Int.fdiv x0_1 (2 ^ Nat.min 52 (IntKind.bits .u64))) &&& BitVec.ofInt (IntKind.bits .u64) 15).toNat))), .int .u8 (IntKind.wrap .u8 (IntKind.wrap .u64 ((BitVec.ofInt (IntKind.bits .u64) (Int.fdiv x0_1 (2 ^ Nat.min 48 (IntKind.bits .u64))) &&& BitVec.ofInt (IntKind.bits .u64) 15).toNat))), .int .i16 (IntKind.wrap .i16 (Int.fdiv x0_1 (2 ^ Nat.min 32 (IntKind.bits .u64)))), .int .i32 (IntKind.wrap .i32 x0_1)]) fun M103 => (Option.bind (M103.ldI .u8 M101.n 0) fun x104 => (Option.bind (M103.ldI .u8 M101.n 1) fun x105 => (Option.bind (M103.ldI .u8 M101.n 2) fun x106 => (Option.bind (M103.ldI .i16 M101.n 3) fun x107 => (Option.bind (M103.ldI .i32 M101.n 4) fun x108 => (Option.bind (call 29 [.agg [.int .u8 x104, .int .u8 x105, .int .u8 x106, .int .i16 x107, .int .i32 x108]] Mem.empty) fun r109 => (Option.bind (r109.1.int? .i64) fun x110 => (cond (x110 != 0) (Option.bind (M103.st M.n 0 [.int .u8 0, .int .u8 0, .int .u8 0, .int .i16 0, .int .i32 0]) fun M111 => (Option.bind (Option.bind (M111.ldI .u8 M.n 0) fun x112 => (Option.bind (M111.ldI .u8 M.n 1) fun x113 => (Option.bind (M111.ldI .u8 M.n 2) fun x114 => (Option.bind (M111.ldI .i16 M.n 3) fun x115 => (Option.bind (M111.ldI .i32 M.n 4) fun x116 => some (.tup [.agg [.int .u8 x112, .int .u8 x113, .int .u8 x114, .int .i16 x115, .int .i32 x116], .int .i64 x110], M111)))))) some)) (Option.bind (M103.ldI .u8 M101.n 0) fun x117 => (Option.bind (M103.ldI .u8 M101.n 1) fun x118 => (Option.bind (M103.ldI .u8 M101.n 2) fun x119 => (Option.bind (M103.ldI .i16 M101.n 3) fun x120 => (Option.bind (M103.ldI .i32 M101.n 4) fun x121 => (Option.bind (M103.st M.n 0 [.int .u8 x117, .int .u8 x118, .int .u8 x119, .int .i16 x120, .int .i32 x121]) fun M122 => (Option.bind (Option.bind (M122.ldI .u8 M.n 0) fun x123 => (Option.bind (M122.ldI .u8 M.n 1) fun x124 => (Option.bind (M122.ldI .u8 M.n 2) fun x125 => (Option.bind (M122.ldI .i16 M.n 3) fun x126 => (Option.bind (M122.ldI .i32 M.n 4) fun x127 => some (.tup [.agg [.int .u8 x123, .int .u8 x124, .int .u8 x125, .int .i16 x126, .int .i32 x127], .int .i64 0], M122)))))) some)))))))))))))))))) :=
  (seg_run false call meth F62.results 100000 [.code C62_8] _ M).symm.trans (by kernel_rfl)
theorem run62 (x0_1 : Int) (M : Mem) : run false call meth F62.results [.code F62.body] (frame0 F62 [.int .u64 x0_1]) M = p62_0 call meth x0_1 M := by kernel_rfl
theorem ok62 : okFn Try.prog 62 F62 = true := by kernel_rfl
def C37_1 : AC := .ret
def C37_2 : AC := .seq (.reg (.o 30 (.loadA [.int .u8, .int .u8, .int .u8, .int .i16, .int .i32] (.t 4)) (.op none (.store 5 (.t 2) (.t 30)) (.o 3 (.mov (.c (.int .i64 0))) .nil))) []) C37_1
def C37_3 : AC := .ret
def C37_4 : AC := .cond (.t 28) (.seq (.reg (.o 29 (.build [.int .u8 0, .int .u8 0, .int .u8 0, .int .i16 0, .int .i32 0] []) (.op none (.store 5 (.t 2) (.t 29)) (.o 3 (.mov (.c (.int .i64 130))) .nil))) []) C37_3) .skip
def C37_5 : AC := .seq (.seq (.reg (.o 26 (.loadA [.int .u8, .int .u8, .int .u8, .int .i16, .int .i32] (.t 4)) (.o 27 (.callP 31 [(.t 26)] (.r (.one (.int .i64)))) (.o 28 (.bin .neq (.t 27) (.c (.int .i64 0))) .nil))) []) C37_4) C37_2
def C37_6 : AC := .seq (.reg (.o 5 (.mov (.t 0)) (.o 6 (.bin .quo (.t 5) (.c (.int .u64 72057594037927936))) (.o 7 (.convI .u8 (.t 6)) (.o 8 (.mov (.t 0)) (.o 9 (.bin .quo (.t 8) (.c (.int .u64 4503599627370496))) (.o 10 (.bin .rem (.t 9) (.c (.int .u64 16))) (.o 11 (.convI .u8 (.t 10)) (.o 12 (.mov (.t 0)) (.o 13 (.bin .quo (.t 12) (.c (.int .u64 281474976710656))) (.o 14 (.bin .rem (.t 13) (.c (.int .u64 16))) (.o 15 (.convI .u8 (.t 14)) (.o 16 (.mov (.t 0)) (.o 17 (.bin .quo (.t 16) (.c (.int .u64 4294967296))) (.o 18 (.bin .rem (.t 17) (.c (.int .u64 65536))) (.o 19 (.convI .u16 (.t 18)) (.o 20 (.convI .i16 (.t 19)) (.o 21 (.mov (.t 0)) (.o 22 (.bin .rem (.t 21) (.c (.int .u64 4294967296))) (.o 23 (.convI .u32 (.t 22)) (.o 24 (.convI .i32 (.t 23)) (.o 25 (.build [.int .u8 0, .int .u8 0, .int .u8 0, .int .i16 0, .int .i32 0] [(0, 1, (.t 7)), (1, 1, (.t 11)), (2, 1, (.t 15)), (3, 1, (.t 20)), (4, 1, (.t 24))]) (.o 4 (.alloc [.int .u8 0, .int .u8 0, .int .u8 0, .int .i16 0, .int .i32 0]) (.op none (.store 5 (.t 4) (.t 25)) .nil))))))))))))))))))))))) []) C37_5
def C37_7 : AC := .seq (.reg (.o 2 (.alloc [.int .u8 0, .int .u8 0, .int .u8 0, .int .i16 0, .int .i32 0]) (.o 3 (.mov (.c (.int .i64 0))) .nil)) []) C37_6
def F37 : AFunc := { ntmps := 31, results := [.cellA 2 [.int .u8, .int .u8, .int .u8, .int .i16, .int .i32], .tmp 3], body := C37_7 }
def p37_0 (x0_1 : Int) (M : Mem) : Rs := run false call meth F37.results [.code C37_7] (some (.int .u64 x0_1) :: nn 30 []) M
theorem p37_0_eq (x0_1 : Int) (M : Mem) : p37_0 call meth x0_1 M = (let M101 := M.alloc ⟨[.int .u8 0, .int .u8 0, .int .u8 0, .int .i16 0, .int .i32 0], .fixed⟩; (let M102 := M101.alloc ⟨[.int .u8 0, .int .u8 0, .int .u8 0, .int .i16 0, .int .i32 0], .fixed⟩; (Option.bind (M102.st M101.n 0 [.int .u8 (IntKind.wrap .u8 (IntKind.wrap .u64 (Int.tdiv x0_1 72057594037927936))), .int .u8 (IntKind.wrap .u8 (Int.tmod (IntKind.wrap .u64 (Int.tdiv x0_1 4503599627370496)) 16)), .int .u8 (IntKind.wrap .u8 (Int.tmod (IntKind.wrap .u64 (Int.tdiv x0_1 281474976710656)) 16)), .int .i16 (IntKind.wrap .i16 (IntKind.wrap .u16 (Int.tmod (IntKind.wrap .u64 (Int.tdiv x0_1 4294967296)) 65536))), .int .i32 (IntKind.wrap .i32 (IntKind.wrap .u32 (Int.tmod x0_1 4294967296)))]) fun M103 => (Option.bind (M103.ldI .u8 M101.n 0) fun x104 => (Option.bind (M103.ldI .u8 M101.n 1) fun x105 => (Option.bind (M103.ldI .u8 M101.n 2) fun x106 => (Option.bind (M103.ldI .i16 M101.n 3) fun x107 => (Option.bind (M103.ldI .i32 M101.n 4) fun x108 => (Option.bind (call 31 [.agg [.int .u8 x104, .int .u8 x105, .int .u8 x106, .int .i16 x107, .int .i32 x108]] Mem.empty) fun r109 => (Option.bind (r109.1.int? .i64) fun x110 => (cond (x110 != 0) (Option.bind (M103.st M.n 0 [.int .u8 0, .int .u8 0, .int .u8 0, .int .i16 0, .int .i32 0]) fun M111 => (Option.bind (Option.bind (M111.ldI .u8 M.n 0) fun x112 => (Option.bind (M111.ldI .u8 M.n 1) fun x113 => (Option.bind (M111.ldI .u8 M.n 2) fun x114 => (Option.bind (M111.ldI .i16 M.n 3) fun x115 => (Option.bind (M111.ldI .i32 M.n 4) fun x116 => some (.tup [.agg [.int .u8 x112, .int .u8 x113, .int .u8 x114, .int .i16 x115, .int .i32 x116], .int .i64 130], M111)))))) some)) (Option.bind (M103.ldI .u8 M101.n 0) fun x117 => (Option.bind (M103.ldI .u8 M101.n 1) fun x118 => (Option.bind (M103.ldI .u8 M101.n 2) fun x119 => (Option.bind (M103.ldI .i16 M101.n 3) fun x120 => (Option.bind (M103.ldI .i32 M101.n 4) fun x121 => (Option.bind (M103.st M.n 0 [.int .u8 x117, .int .u8 x118, .int .u8 x119, .int .i16 x120, .int .i32 x121]) fun M122 => (Option.bind (Option.bind (M122.ldI .u8 M.n 0) fun x123 => (Option.bind (M122.ldI .u8 M.n 1) fun x124 => (Option.bind (M122.ldI .u8 M.n 2) fun x125 => (Option.bind (M122.ldI .i16 M.n 3) fun x126 => (Option.bind (M122.ldI .i32 M.n 4) fun x127 => some (.tup [.agg [.int .u8 x123, .int .u8 x124, .int .u8 x125, .int .i16 x126, .int .i32 x127], .int .i64 0], M122)))))) some)))))))))))))))))) :=
  (seg_run false call meth F37.results 100000 [.code C37_7] _ M).symm.trans (by kernel_rfl)
theorem run37 (x0_1 : Int) (M : Mem) : run false call meth F37.results [.code F37.body] (frame0 F37 [.int .u64 x0_1]) M = p37_0 call meth x0_1 M := by kernel_rfl
theorem ok37 : okFn Try.prog 37 F37 = true := by kernel_rfl
end
end Go.Proofs.Ytmkncifbammfjaa.M
