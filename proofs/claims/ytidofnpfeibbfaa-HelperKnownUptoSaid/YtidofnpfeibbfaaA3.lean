import Derived.Test.YtidofnpfeibbfaaXRen
import Derived.Test.YtidofnpfeibbfaaProg
set_option linter.unusedVariables false
set_option maxRecDepth 100000
namespace Go.Proofs.Ytidofnpfeibbfaa.M
open Go.Abs
noncomputable section
variable (call : CallF) (meth : MethF)
def C13_1 : AC := .ret
def C13_2 : AC := .seq (.reg (.o 12 (.mov (.t 0)) (.o 4 (.mov (.t 12)) .nil)) []) C13_1
def C13_3 : AC := .ret
def C13_4 : AC := .cond (.t 8) (.seq (.reg (.o 9 (.mov (.t 0)) (.o 10 (.mov (.t 1)) (.o 11 (.slc 1 (.t 9) none (some (.t 10)) none) (.o 4 (.mov (.t 11)) .nil)))) []) C13_3) .skip
def C13_5 : AC := .seq (.seq (.reg (.o 5 (.mov (.t 0)) (.o 6 (.len (.t 5)) (.o 7 (.mov (.t 1)) (.o 8 (.bin .gtr (.t 6) (.t 7)) .nil)))) []) C13_4) C13_2
def C13_6 : AC := .seq (.reg (.o 4 (.mov (.c (.sl none 0 (.known 0)))) .nil) []) C13_5
def F13 : AFunc := { ntmps := 13, results := [.tmp 4], body := C13_6 }
theorem ok13 : okFn Try.prog 13 F13 = true := by kernel_rfl
def C14_1 : AC := .ret
def C14_2 : AC := .seq (.reg (.o 14 (.mov (.t 4)) (.o 15 (.build [.bool false, .ptr none] [(0, 1, (.c (.bool true))), (1, 1, (.t 14))]) (.o 16 (.box (.t 15)) (.o 2 (.mov (.t 16)) (.o 3 (.mov (.c (.int .i64 0))) .nil))))) []) C14_1
def C14_3 : AC := .ret
def C14_4 : AC := .cond (.t 12) (.seq (.reg (.o 13 (.mov (.t 5)) (.o 2 (.mov (.c (.ptr none))) (.o 3 (.mov (.t 13)) .nil))) []) C14_3) .skip
def C14_5 : AC := .seq (.seq (.reg (.o 11 (.mov (.t 5)) (.o 12 (.bin .neq (.t 11) (.c (.int .i64 0))) .nil)) []) C14_4) C14_2
def C14_6 : AC := .seq (.reg (.o 7 (.mov (.t 0)) (.o 8 (.call 39 [(.t 7)] (.tup [.one .ptr, .one (.int .i64)])) (.o 6 (.mov (.t 8)) (.o 9 (.ext (.t 6) 0) (.o 10 (.ext (.t 6) 1) (.o 4 (.mov (.t 9)) (.o 5 (.mov (.t 10)) .nil))))))) []) C14_5
def C14_7 : AC := .seq (.reg (.o 2 (.mov (.c (.ptr none))) (.o 3 (.mov (.c (.int .i64 0))) .nil)) []) C14_6
def F14 : AFunc := { ntmps := 17, results := [.tmp 2, .tmp 3], body := C14_7 }
def p14_0 (x0_1a : Ad) (x0_1l : Nat) (x0_1c : Cap) (M : Mem) : Rs := run false call meth F14.results [.code C14_7] (some (.sl x0_1a x0_1l x0_1c) :: nn 16 []) M
theorem p14_0_eq (x0_1a : Ad) (x0_1l : Nat) (x0_1c : Cap) (M : Mem) : p14_0 call meth x0_1a x0_1l x0_1c M = (Option.bind (call 39 [.sl x0_1a x0_1l x0_1c] M) fun r101 => (Option.bind r101.1.tup? fun l102 => (Option.bind l102.head? fun v103 => (Option.bind (v103.ptr?) fun x104 => (Option.bind l102.tail.head? fun v105 => (Option.bind (v105.int? .i64) fun x106 => (cond l102.tail.tail.isEmpty (cond (x106 != 0) (some (.tup [.ptr none, .int .i64 x106], r101.2)) (let M107 := r101.2.alloc ⟨[.bool true, .ptr x104], .fixed⟩; (some (.tup [.ptr (some (r101.2.n, 0)), .int .i64 0], M107)))) none))))))) :=
  (seg_run false call meth F14.results 100000 [.code C14_7] _ M).symm.trans (by kernel_rfl)
theorem run14 (x0_1a : Ad) (x0_1l : Nat) (x0_1c : Cap) (M : Mem) : run false call meth F14.results [.code F14.body] (frame0 F14 [.sl x0_1a x0_1l x0_1c]) M = p14_0 call meth x0_1a x0_1l x0_1c M := by kernel_rfl
theorem ok14 : okFn Try.prog 14 F14 = true := by kernel_rfl
def C15_1 : AC := .ret
def C15_2 : AC := .seq (.reg (.o 52 (.mov (.t 9)) (.o 6 (.mov (.t 52)) (.o 7 (.mov (.c (.int .i64 0))) .nil))) []) C15_1
def C15_3 : AC := .ret
def C15_4 : AC := .cond (.t 51) (.seq (.reg (.o 6 (.mov (.c (.ptr none))) (.o 7 (.mov (.c (.int .i64 3))) .nil)) []) C15_3) .skip
def C15_5 : AC := .seq (.seq (.reg (.o 49 (.mov (.t 2)) (.o 50 (.len (.t 49)) (.o 51 (.bin .gtr (.t 50) (.c (.int .i64 8))) .nil))) []) C15_4) C15_2
def C15_6 : AC := .reg (.o 48 (.bin .add (.t 28) (.c (.int .i64 1))) (.o 28 (.mov (.t 48)) .nil)) []
def C15_7 : AC := .drw (.o 37 (.mov (.t 9)) (.o 38 (.mov (.t 9)) (.o 39 (.nilCk (.t 38)) (.o 40 (.fldA 1 (.t 39)) (.o 41 (.load1 .sl (.t 40)) (.o 42 (.mov (.t 11)) (.o 43 (.call 43 [(.t 42)] (.r (.one .sl))) (.o 44 (.bslice [.sl none 0 (.known 0)] [(0, 1, (.t 43))] 1) (.o 45 (.app 1 24 (.t 41) (.t 44)) (.o 46 (.nilCk (.t 37)) (.o 47 (.fldA 1 (.t 46)) (.op none (.store 1 (.t 47) (.t 45)) .nil)))))))))))) [(4, 6), (4, 7)] []
def C15_8 : AC := .ret
def C15_9 : AC := .cond (.t 35) (.seq (.reg (.o 36 (.mov (.t 12)) (.o 6 (.mov (.c (.ptr none))) (.o 7 (.mov (.t 36)) .nil))) []) C15_8) .skip
def C15_10 : AC := .seq (.reg (.o 34 (.mov (.t 12)) (.o 35 (.bin .neq (.t 34) (.c (.int .i64 0))) .nil)) []) C15_9
def C15_11 : AC := .seq (.seq (.reg (.o 32 (.mov (.t 11)) (.o 33 (.call 42 [(.t 32)] (.r (.one (.int .i64)))) (.o 12 (.mov (.t 33)) .nil))) []) C15_10) C15_7
def C15_12 : AC := .seq (.block 1 (.seq (.reg (.o 30 (.ixS 1 (.t 26) (.t 28)) (.o 31 (.load1 .sl (.t 30)) (.o 11 (.mov (.t 31)) .nil))) []) C15_11)) C15_6
def C15_13 : AC := .seq (.cond (.t 29) .skip (.exit 0)) C15_12
def C15_14 : AC := .seq (.reg (.o 29 (.bin .lss (.t 28) (.t 27)) .nil) []) C15_13
def C15_15 : AC := .kil (0 :: 1 :: rg 3 6 (rg 10 16 (rg 29 24 []))) (.pt C15_14)
def C15_16 : AC := .block 0 (.loop C15_15)
def C15_17 : AC := .seq (.seq (.reg (.o 26 (.mov (.t 1)) (.o 27 (.len (.t 26)) (.o 28 (.mov (.c (.int .i64 0))) .nil))) []) C15_16) C15_5
def C15_18 : AC := .seq (.reg (.o 21 (.mov (.t 0)) (.o 22 (.mov (.t 2)) (.o 23 (.call 41 [(.t 22)] (.r (.one .sl))) (.o 24 (.build [.ptr none, .sl none 0 (.known 0), .sl none 0 (.known 0), .sl none 0 (.known 0), .int .i64 0] [(0, 1, (.t 21)), (2, 1, (.t 23)), (4, 1, (.c (.int .i64 (-1))))]) (.o 25 (.box (.t 24)) (.o 9 (.mov (.t 25)) .nil)))))) []) C15_17
def C15_19 : AC := .ret
def C15_20 : AC := .cond (.t 20) (.seq (.reg (.o 6 (.mov (.c (.ptr none))) (.o 7 (.mov (.c (.int .i64 3))) .nil)) []) C15_19) .skip
def C15_21 : AC := .seq (.seq (.reg (.o 18 (.mov (.t 1)) (.o 19 (.len (.t 18)) (.o 20 (.bin .gtr (.t 19) (.c (.int .i64 4))) .nil))) []) C15_20) C15_18
def C15_22 : AC := .ret
def C15_23 : AC := .cond (.t 16) (.seq (.reg (.o 17 (.mov (.t 8)) (.o 6 (.mov (.c (.ptr none))) (.o 7 (.mov (.t 17)) .nil))) []) C15_22) .skip
def C15_24 : AC := .seq (.reg (.o 15 (.mov (.t 8)) (.o 16 (.bin .neq (.t 15) (.c (.int .i64 0))) .nil)) []) C15_23
def C15_25 : AC := .seq (.seq (.reg (.o 13 (.mov (.t 0)) (.o 14 (.call 40 [(.t 13)] (.r (.one (.int .i64)))) (.o 8 (.mov (.t 14)) .nil))) []) C15_24) C15_21
def C15_26 : AC := .seq (.reg (.o 6 (.mov (.c (.ptr none))) (.o 7 (.mov (.c (.int .i64 0))) .nil)) []) C15_25
def F15 : AFunc := { ntmps := 53, results := [.tmp 6, .tmp 7], body := C15_26 }
def p15_0 (x0_1 : Ad) (x1_2a : Ad) (x1_2l : Nat) (x1_2c : Cap) (x2_3a : Ad) (x2_3l : Nat) (x2_3c : Cap) (M : Mem) : Rs := run false call meth F15.results [.code C15_26] (some (.ptr x0_1) :: some (.sl x1_2a x1_2l x1_2c) :: some (.sl x2_3a x2_3l x2_3c) :: nn 50 []) M
def p15_1 (x2_106a : Ad) (x2_106l : Nat) (x2_106c : Cap) (x9_107 : Ad) (x26_108a : Ad) (x26_108l : Nat) (x26_108c : Cap) (x27_109 : Int) (x28_110 : Int) (M : Mem) : Rs := run false call meth F15.results [.code C15_14, .inLoop C15_15, .inBlock 0, .code C15_5] (none :: none :: some (.sl x2_106a x2_106l x2_106c) :: nn 6 (some (.ptr x9_107) :: nn 16 (some (.sl x26_108a x26_108l x26_108c) :: some (.int .i64 x27_109) :: some (.int .i64 x28_110) :: nn 24 []))) M
theorem p15_0_eq (x0_1 : Ad) (x1_2a : Ad) (x1_2l : Nat) (x1_2c : Cap) (x2_3a : Ad) (x2_3l : Nat) (x2_3c : Cap) (M : Mem) : p15_0 call meth x0_1 x1_2a x1_2l x1_2c x2_3a x2_3l x2_3c M = (Option.bind (call 40 [.ptr x0_1] M) fun r101 => (Option.bind (r101.1.int? .i64) fun x102 => (cond (x102 != 0) (some (.tup [.ptr none, .int .i64 x102], r101.2)) (cond (decide (((x1_2l : Nat) : Int) > 4)) (some (.tup [.ptr none, .int .i64 3], r101.2)) (Option.bind (call 41 [.sl x2_3a x2_3l x2_3c] r101.2) fun r103 => (Option.bind (r103.1.sl?) fun x104 => (let M105 := r103.2.alloc ⟨[.ptr x0_1, .sl none 0 (.known 0), .sl x104.1 x104.2.1 x104.2.2, .sl none 0 (.known 0), .int .i64 (-1)], .fixed⟩; (p15_1 call meth x2_3a x2_3l x2_3c (some (r103.2.n, 0)) x1_2a x1_2l x1_2c ((x1_2l : Nat) : Int) 0 M105)))))))) :=
  (seg_run false call meth F15.results 100000 [.code C15_26] _ M).symm.trans (by kernel_rfl)
theorem p15_1_eq (x2_106a : Ad) (x2_106l : Nat) (x2_106c : Cap) (x9_107 : Ad) (x26_108a : Ad) (x26_108l : Nat) (x26_108c : Cap) (x27_109 : Int) (x28_110 : Int) (M : Mem) : p15_1 call meth x2_106a x2_106l x2_106c x9_107 x26_108a x26_108l x26_108c x27_109 x28_110 M = (cond (decide (x28_110 < x27_109)) (cond (decide (0 ≤ x28_110)) (cond (Nat.blt x28_110.toNat x26_108l) (Option.bind (slPtr x26_108a x26_108c) fun p201 => (Option.bind (M.ldL p201.1 (p201.2 + x28_110.toNat * 1)) fun x202 => (Option.bind (call 42 [.sl x202.1 x202.2.1 x202.2.2] M) fun r203 => (Option.bind (r203.1.int? .i64) fun x204 => (cond (x204 != 0) (some (.tup [.ptr none, .int .i64 x204], r203.2)) (Option.bind x9_107 fun p205 => (Option.bind (r203.2.ldL p205.1 (p205.2 + 1)) fun x206 => (Option.bind (call 43 [.sl x202.1 x202.2.1 x202.2.2] r203.2) fun r207 => (Option.bind (r207.1.sl?) fun x208 => (let M209 := r207.2.alloc ⟨[.sl x208.1 x208.2.1 x208.2.2], .fixed⟩; (appK false 1 24 M209 x206.1 x206.2.1 x206.2.2 (.sl (some (r207.2.n, 0)) 1 (.known 1)) fun s210a s210l s210c M211 => (Option.bind x9_107 fun p212 => (Option.bind (M211.st p212.1 (p212.2 + 1) [.sl s210a s210l s210c]) fun M213 => (cond (cond (r207.2.still p205.1 (p205.2 + 1) [.sl x206.1 x206.2.1 x206.2.2]) (cond (M209.still p205.1 (p205.2 + 1) [.sl x206.1 x206.2.1 x206.2.2]) true false) false) (p15_1 call meth x2_106a x2_106l x2_106c x9_107 x26_108a x26_108l x26_108c x27_109 (IntKind.wrap .i64 (x28_110 + 1)) M213) none)))))))))))))) none) none) (cond (decide (((x2_106l : Nat) : Int) > 8)) (some (.tup [.ptr none, .int .i64 3], M)) (some (.tup [.ptr x9_107, .int .i64 0], M)))) :=
  (seg_run false call meth F15.results 100000 [.code C15_14, .inLoop C15_15, .inBlock 0, .code C15_5] _ M).symm.trans (by kernel_rfl)
theorem run15 (x0_1 : Ad) (x1_2a : Ad) (x1_2l : Nat) (x1_2c : Cap) (x2_3a : Ad) (x2_3l : Nat) (x2_3c : Cap) (M : Mem) : run false call meth F15.results [.code F15.body] (frame0 F15 [.ptr x0_1, .sl x1_2a x1_2l x1_2c, .sl x2_3a x2_3l x2_3c]) M = p15_0 call meth x0_1 x1_2a x1_2l x1_2c x2_3a x2_3l x2_3c M := by kernel_rfl
theorem ok15 : okFn Try.prog 15 F15 = true := by kernel_rfl
def C16_1 : AC := .ret
def C16_2 : AC := .seq (.reg (.o 6 (.mov (.t 0)) (.o 7 (.nilCk (.t 6)) (.o 8 (.fldA 1 (.t 7)) (.o 9 (.load1 .ptr (.t 8)) (.o 10 (.nilCk (.t 9)) (.o 11 (.fldA 0 (.t 10)) (.o 12 (.load1 .ptr (.t 11)) (.o 13 (.call 45 [(.t 12)] (.r (.one .sl))) (.o 2 (.mov (.t 13)) .nil))))))))) []) C16_1
def C16_3 : AC := .ret
def C16_4 : AC := .cond (.t 5) (.seq (.reg (.o 2 (.mov (.c (.sl none 0 (.known 0)))) .nil) []) C16_3) .skip
def C16_5 : AC := .seq (.seq (.reg (.o 3 (.mov (.t 0)) (.o 4 (.call 44 [(.t 3)] (.r (.one (.int .i64)))) (.o 5 (.bin .neq (.t 4) (.c (.int .i64 0))) .nil))) []) C16_4) C16_2
def C16_6 : AC := .seq (.reg (.o 2 (.mov (.c (.sl none 0 (.known 0)))) .nil) []) C16_5
def F16 : AFunc := { ntmps := 14, results := [.tmp 2], body := C16_6 }
def p16_0 (x0_1 : Ad) (M : Mem) : Rs := run false call meth F16.results [.code C16_6] (some (.ptr x0_1) :: nn 13 []) M
theorem p16_0_eq (x0_1 : Ad) (M : Mem) : p16_0 call meth x0_1 M = (Option.bind (call 44 [.ptr x0_1] M) fun r101 => (Option.bind (r101.1.int? .i64) fun x102 => (cond (x102 != 0) (some (.sl none 0 (.known 0), r101.2)) (Option.bind x0_1 fun p103 => (Option.bind (r101.2.ldP p103.1 (p103.2 + 1)) fun x104 => (Option.bind x104 fun p105 => (Option.bind (r101.2.ldP p105.1 (p105.2 + 0)) fun x106 => (Option.bind (call 45 [.ptr x106] r101.2) fun r107 => (Option.bind (r107.1.sl?) fun x108 => (some (.sl x108.1 x108.2.1 x108.2.2, r107.2))))))))))) :=
  (seg_run false call meth F16.results 100000 [.code C16_6] _ M).symm.trans (by kernel_rfl)
theorem run16 (x0_1 : Ad) (M : Mem) : run false call meth F16.results [.code F16.body] (frame0 F16 [.ptr x0_1]) M = p16_0 call meth x0_1 M := by kernel_rfl
theorem ok16 : okFn Try.prog 16 F16 = true := by kernel_rfl
def C17_1 : AC := .ret
def C17_2 : AC := .seq (.reg (.o 44 (.mov (.t 0)) (.o 45 (.mov (.t 1)) (.o 46 (.ixA 5 1 (.t 5) (.c (.int .i64 0))) (.o 47 (.load1 (.int .u64) (.t 46)) (.o 48 (.ixA 5 1 (.t 5) (.c (.int .i64 1))) (.o 49 (.load1 (.int .u64) (.t 48)) (.o 50 (.ixA 5 1 (.t 5) (.c (.int .i64 2))) (.o 51 (.load1 (.int .u64) (.t 50)) (.o 52 (.call 47 [(.t 44), (.t 45), (.t 47), (.t 49), (.t 51)] (.r (.one (.int .u64)))) (.o 6 (.mov (.t 52)) (.o 7 (.mov (.c (.int .i64 0))) .nil))))))))))) []) C17_1
def C17_3 : AC := .kil (2 :: 3 :: 4 :: rg 6 47 []) (.pt C17_2)
def C17_4 : AC := .ret
def C17_5 : AC := .cond (.t 43) (.seq (.reg (.o 6 (.mov (.c (.int .u64 0))) (.o 7 (.mov (.c (.int .i64 180))) .nil)) []) C17_4) .skip
def C17_6 : AC := .seq (.drw (.o 27 (.mov (.t 10)) (.o 28 (.not (.t 27)) (.o 29 (.mov (.t 28)) (.grp 29 false (.o 30 (.mov (.t 1)) (.o 31 (.bin .eql (.t 30) (.c (.int .i32 8))) (.o 32 (.mov (.t 31)) (.grp 32 true (.o 33 (.ixA 5 1 (.t 5) (.c (.int .i64 0))) (.o 34 (.load1 (.int .u64) (.t 33)) (.o 35 (.mov (.t 0)) (.o 36 (.nilCk (.t 35)) (.o 37 (.fldA 1 (.t 36)) (.o 38 (.load1 .sl (.t 37)) (.o 39 (.len (.t 38)) (.o 40 (.convI .u64 (.t 39)) (.o 41 (.bin .geq (.t 34) (.t 40)) .nil))))))))) (.o 42 (.pick (.t 32) (.t 41) (.c (.bool false))) .nil))))) (.o 43 (.pick (.t 29) (.c (.bool true)) (.t 42)) .nil))))) [] []) C17_5
def C17_7 : AC := .seq (.seq (.reg (.o 23 (.mov (.t 1)) (.o 24 (.callP 8 [(.t 23)] (.tup [.one (.int .i64), .one .bool])) (.o 22 (.mov (.t 24)) (.o 25 (.ext (.t 22) 0) (.o 26 (.ext (.t 22) 1) (.o 9 (.mov (.t 25)) (.o 10 (.mov (.t 26)) .nil))))))) []) C17_6) C17_3
def C17_8 : AC := .ret
def C17_9 : AC := .cond (.t 20) (.seq (.reg (.o 21 (.mov (.t 8)) (.o 6 (.mov (.c (.int .u64 0))) (.o 7 (.mov (.t 21)) .nil))) []) C17_8) .skip
def C17_10 : AC := .seq (.reg (.o 19 (.mov (.t 8)) (.o 20 (.bin .neq (.t 19) (.c (.int .i64 0))) .nil)) []) C17_9
def C17_11 : AC := .seq (.seq (.reg (.o 14 (.mov (.t 0)) (.o 15 (.nilCk (.t 14)) (.o 16 (.fldA 0 (.t 15)) (.o 17 (.load1 .ptr (.t 16)) (.o 18 (.call 40 [(.t 17)] (.r (.one (.int .i64)))) (.o 8 (.mov (.t 18)) .nil)))))) []) C17_10) C17_7
def C17_12 : AC := .ret
def C17_13 : AC := .cond (.t 13) (.seq (.reg (.o 6 (.mov (.c (.int .u64 0))) (.o 7 (.mov (.c (.int .i64 1))) .nil)) []) C17_12) .skip
def C17_14 : AC := .seq (.seq (.reg (.o 11 (.mov (.t 0)) (.o 12 (.call 46 [(.t 11)] (.r (.one .bool))) (.o 13 (.not (.t 12)) .nil))) []) C17_13) C17_11
def C17_15 : AC := .seq (.reg (.o 5 (.box (.t 2)) (.o 6 (.mov (.c (.int .u64 0))) (.o 7 (.mov (.c (.int .i64 0))) .nil))) []) C17_14
def F17 : AFunc := { ntmps := 53, results := [.tmp 6, .tmp 7], body := C17_15 }
def p17_0 (x0_1 : Ad) (x1_2 : Int) (x2_3 : Int) (x2_4 : Int) (x2_5 : Int) (x2_6 : Int) (x2_7 : Int) (M : Mem) : Rs := run false call meth F17.results [.code C17_15] (some (.ptr x0_1) :: some (.int .i32 x1_2) :: some (.agg [.int .u64 x2_3, .int .u64 x2_4, .int .u64 x2_5, .int .u64 x2_6, .int .u64 x2_7]) :: nn 50 []) M
def p17_1 (x0_117 : Ad) (x1_118 : Int) (x5_119 : Nat) (M : Mem) : Rs := run false call meth F17.results [.code C17_2] (some (.ptr x0_117) :: some (.int .i32 x1_118) :: none :: none :: none :: some (.ptr (some (x5_119, 0))) :: nn 47 []) M
theorem p17_0_eq (x0_1 : Ad) (x1_2 : Int) (x2_3 : Int) (x2_4 : Int) (x2_5 : Int) (x2_6 : Int) (x2_7 : Int) (M : Mem) : p17_0 call meth x0_1 x1_2 x2_3 x2_4 x2_5 x2_6 x2_7 M = (let M101 := M.alloc ⟨[.int .u64 x2_3, .int .u64 x2_4, .int .u64 x2_5, .int .u64 x2_6, .int .u64 x2_7], .fixed⟩; (Option.bind (call 46 [.ptr x0_1] M101) fun r102 => (Option.bind (r102.1.bool?) fun x103 => (cond (!x103) (some (.tup [.int .u64 0, .int .i64 1], r102.2)) (Option.bind x0_1 fun p104 => (Option.bind (r102.2.ldP p104.1 (p104.2 + 0)) fun x105 => (Option.bind (call 40 [.ptr x105] r102.2) fun r106 => (Option.bind (r106.1.int? .i64) fun x107 => (cond (x107 != 0) (some (.tup [.int .u64 0, .int .i64 x107], r106.2)) (Option.bind (call 8 [.int .i32 x1_2] Mem.empty) fun r108 => (Option.bind r108.1.tup? fun l109 => (Option.bind l109.head? fun v110 => (Option.bind (v110.int? .i64) fun x111 => (Option.bind l109.tail.head? fun v112 => (Option.bind (v112.bool?) fun x113 => (cond l109.tail.tail.isEmpty (cond (!x113) (some (.tup [.int .u64 0, .int .i64 180], r106.2)) (cond (x1_2 == 8) (Option.bind (r106.2.ldI .u64 M.n (0 + 0 * 1)) fun x114 => (Option.bind x0_1 fun p115 => (Option.bind (r106.2.ldL p115.1 (p115.2 + 1)) fun x116 => (cond (decide (x114 ≥ (IntKind.wrap .u64 ((x116.2.1 : Nat) : Int)))) (some (.tup [.int .u64 0, .int .i64 180], r106.2)) (p17_1 call meth x0_1 x1_2 M.n r106.2))))) (p17_1 call meth x0_1 x1_2 M.n r106.2))) none)))))))))))))))) :=
  (seg_run false call meth F17.results 100000 [.code C17_15] _ M).symm.trans (by kernel_rfl)
theorem p17_1_eq (x0_117 : Ad) (x1_118 : Int) (x5_119 : Nat) (M : Mem) : p17_1 call meth x0_117 x1_118 x5_119 M = (Option.bind (M.ldI .u64 x5_119 (0 + 0 * 1)) fun x201 => (Option.bind (M.ldI .u64 x5_119 (0 + 1 * 1)) fun x202 => (Option.bind (M.ldI .u64 x5_119 (0 + 2 * 1)) fun x203 => (Option.bind (call 47 [.ptr x0_117, .int .i32 x1_118, .int .u64 x201, .int .u64 x202, .int .u64 x203] M) fun r204 => (Option.bind (r204.1.int? .u64) fun x205 => (some (.tup [.int .u64 x205, .int .i64 0], r204.2))))))) :=
  (seg_run false call meth F17.results 100000 [.code C17_2] _ M).symm.trans (by kernel_rfl)
theorem run17 (x0_1 : Ad) (x1_2 : Int) (x2_3 : Int) (x2_4 : Int) (x2_5 : Int) (x2_6 : Int) (x2_7 : Int) (M : Mem) : run false call meth F17.results [.code F17.body] (frame0 F17 [.ptr x0_1, .int .i32 x1_2, .agg [.int .u64 x2_3, .int .u64 x2_4, .int .u64 x2_5, .int .u64 x2_6, .int .u64 x2_7]]) M = p17_0 call meth x0_1 x1_2 x2_3 x2_4 x2_5 x2_6 x2_7 M := by kernel_rfl
theorem ok17 : okFn Try.prog 17 F17 = true := by kernel_rfl
def C18_1 : AC := .ret
def C18_2 : AC := .seq (.reg (.o 5 (.mov (.t 0)) (.o 6 (.mov (.t 1)) (.o 7 (.bin .eql (.t 5) (.t 6)) (.o 8 (.mov (.t 7)) (.grp 8 false (.o 9 (.mov (.t 0)) (.o 10 (.bin .rem (.t 9) (.c (.int .u16 65535))) (.o 11 (.mov (.t 1)) (.o 12 (.bin .rem (.t 11) (.c (.int .u16 65535))) (.o 13 (.bin .eql (.t 10) (.t 12)) .nil))))) (.o 14 (.pick (.t 8) (.c (.bool true)) (.t 13)) (.o 4 (.mov (.t 14)) .nil))))))) []) C18_1
def C18_3 : AC := .seq (.reg (.o 4 (.mov (.c (.bool false))) .nil) []) C18_2
def F18 : AFunc := { ntmps := 15, results := [.tmp 4], body := C18_3 }
theorem ok18 : okFn Try.prog 18 F18 = true := by kernel_rfl
def C19_1 : AC := .ret
def C19_2 : AC := .seq (.reg (.o 43 (.mov (.t 3)) (.o 44 (.callP 48 [(.t 43)] (.r (.one (.int .u16)))) (.o 2 (.mov (.t 44)) .nil))) []) C19_1
def C19_3 : AC := .cond (.t 32) (.reg (.o 33 (.mov (.t 3)) (.o 34 (.mov (.t 0)) (.o 35 (.mov (.t 0)) (.o 36 (.len (.t 35)) (.o 37 (.bin .sub (.t 36) (.c (.int .i64 1))) (.o 38 (.ixS 1 (.t 34) (.t 37)) (.o 39 (.load1 (.int .u8) (.t 38)) (.o 40 (.convI .u64 (.t 39)) (.o 41 (.shift .shl (.t 40) (.c (.int .u64 8))) (.o 42 (.bin .add (.t 33) (.t 41)) (.o 3 (.mov (.t 42)) .nil))))))))))) []) .skip
def C19_4 : AC := .seq (.seq (.reg (.o 29 (.mov (.t 0)) (.o 30 (.len (.t 29)) (.o 31 (.bin .rem (.t 30) (.c (.int .i64 2))) (.o 32 (.bin .eql (.t 31) (.c (.int .i64 1))) .nil)))) []) C19_3) C19_2
def C19_5 : AC := .reg (.o 28 (.bin .add (.t 8) (.c (.int .i64 1))) (.o 8 (.mov (.t 28)) .nil)) []
def C19_6 : AC := .drw (.o 11 (.mov (.t 3)) (.o 12 (.mov (.t 0)) (.o 13 (.mov (.t 4)) (.o 14 (.bin .mul (.c (.int .i64 2)) (.t 13)) (.o 15 (.ixS 1 (.t 12) (.t 14)) (.o 16 (.load1 (.int .u8) (.t 15)) (.o 17 (.convI .u64 (.t 16)) (.o 18 (.shift .shl (.t 17) (.c (.int .u64 8))) (.o 19 (.mov (.t 0)) (.o 20 (.mov (.t 4)) (.o 21 (.bin .mul (.c (.int .i64 2)) (.t 20)) (.o 22 (.bin .add (.t 21) (.c (.int .i64 1))) (.o 23 (.ixS 1 (.t 19) (.t 22)) (.o 24 (.load1 (.int .u8) (.t 23)) (.o 25 (.convI .u64 (.t 24)) (.o 26 (.bin .or (.t 18) (.t 25)) (.o 27 (.bin .add (.t 11) (.t 26)) (.o 3 (.mov (.t 27)) .nil)))))))))))))))))) [] []
def C19_7 : AC := .seq (.block 1 (.seq (.reg (.o 10 (.mov (.t 8)) (.o 4 (.mov (.t 10)) .nil)) []) C19_6)) C19_5
def C19_8 : AC := .seq (.cond (.t 9) .skip (.exit 0)) C19_7
def C19_9 : AC := .seq (.reg (.o 9 (.bin .lss (.t 8) (.t 7)) .nil) []) C19_8
def C19_10 : AC := .kil (1 :: 2 :: 4 :: 5 :: 6 :: rg 9 36 []) (.pt C19_9)
def C19_11 : AC := .block 0 (.loop C19_10)
def C19_12 : AC := .seq (.seq (.reg (.o 5 (.mov (.t 0)) (.o 6 (.len (.t 5)) (.o 7 (.bin .quo (.t 6) (.c (.int .i64 2))) (.o 8 (.mov (.c (.int .i64 0))) .nil)))) []) C19_11) C19_4
def C19_13 : AC := .seq (.reg (.o 3 (.mov (.c (.int .u64 0))) .nil) []) C19_12
def C19_14 : AC := .seq (.reg (.o 2 (.mov (.c (.int .u16 0))) .nil) []) C19_13
def F19 : AFunc := { ntmps := 45, results := [.tmp 2], body := C19_14 }
theorem ok19 : okFn Try.prog 19 F19 = true := by kernel_rfl
def C22_1 : AC := .ret
def C22_2 : AC := .seq (.reg (.o 4 (.mov (.c (.bool true))) .nil) []) C22_1
def C22_3 : AC := .reg (.o 15 (.mov (.t 5)) (.o 16 (.bin .add (.t 15) (.c (.int .i64 1))) (.o 5 (.mov (.t 16)) .nil))) []
def C22_4 : AC := .ret
def C22_5 : AC := .cond (.t 25) (.seq (.reg (.o 4 (.mov (.c (.bool false))) .nil) []) C22_4) .skip
def C22_6 : AC := .seq (.block 1 (.seq (.drw (.o 17 (.mov (.t 0)) (.o 18 (.mov (.t 5)) (.o 19 (.ixS 1 (.t 17) (.t 18)) (.o 20 (.load1 (.int .u8) (.t 19)) (.o 21 (.mov (.t 1)) (.o 22 (.mov (.t 5)) (.o 23 (.ixS 1 (.t 21) (.t 22)) (.o 24 (.load1 (.int .u8) (.t 23)) (.o 25 (.bin .neq (.t 20) (.t 24)) .nil))))))))) [] []) C22_5)) C22_3
def C22_7 : AC := .cond (.t 14) .skip (.exit 0)
def C22_8 : AC := .seq (.seq (.reg (.o 11 (.mov (.t 5)) (.o 12 (.mov (.t 0)) (.o 13 (.len (.t 12)) (.o 14 (.bin .lss (.t 11) (.t 13)) .nil)))) []) C22_7) C22_6
def C22_9 : AC := .kil (2 :: 3 :: 4 :: rg 6 20 []) (.pt C22_8)
def C22_10 : AC := .block 0 (.loop C22_9)
def C22_11 : AC := .seq (.seq (.reg (.o 5 (.mov (.c (.int .i64 0))) .nil) []) C22_10) C22_2
def C22_12 : AC := .ret
def C22_13 : AC := .cond (.t 10) (.seq (.reg (.o 4 (.mov (.c (.bool false))) .nil) []) C22_12) .skip
def C22_14 : AC := .seq (.seq (.reg (.o 6 (.mov (.t 0)) (.o 7 (.len (.t 6)) (.o 8 (.mov (.t 1)) (.o 9 (.len (.t 8)) (.o 10 (.bin .neq (.t 7) (.t 9)) .nil))))) []) C22_13) C22_11
def C22_15 : AC := .seq (.reg (.o 4 (.mov (.c (.bool false))) .nil) []) C22_14
def F22 : AFunc := { ntmps := 26, results := [.tmp 4], body := C22_15 }
def p22_0 (x0_1a : Ad) (x0_1l : Nat) (x0_1c : Cap) (x1_2a : Ad) (x1_2l : Nat) (x1_2c : Cap) (M : Mem) : Rs := run false call meth F22.results [.code C22_15] (some (.sl x0_1a x0_1l x0_1c) :: some (.sl x1_2a x1_2l x1_2c) :: nn 24 []) M
def p22_1 (x0_101a : Ad) (x0_101l : Nat) (x0_101c : Cap) (x1_102a : Ad) (x1_102l : Nat) (x1_102c : Cap) (x5_103 : Int) (M : Mem) : Rs := run false call meth F22.results [.code C22_8, .inLoop C22_9, .inBlock 0, .code C22_2] (some (.sl x0_101a x0_101l x0_101c) :: some (.sl x1_102a x1_102l x1_102c) :: none :: none :: none :: some (.int .i64 x5_103) :: nn 20 []) M
theorem p22_0_eq (x0_1a : Ad) (x0_1l : Nat) (x0_1c : Cap) (x1_2a : Ad) (x1_2l : Nat) (x1_2c : Cap) (M : Mem) : p22_0 call meth x0_1a x0_1l x0_1c x1_2a x1_2l x1_2c M = (cond (((x0_1l : Nat) : Int) != ((x1_2l : Nat) : Int)) (some (.bool false, M)) (p22_1 call meth x0_1a x0_1l x0_1c x1_2a x1_2l x1_2c 0 M)) :=
  (seg_run false call meth F22.results 100000 [.code C22_15] _ M).symm.trans (by kernel_rfl)
theorem p22_1_eq (x0_101a : Ad) (x0_101l : Nat) (x0_101c : Cap) (x1_102a : Ad) (x1_102l : Nat) (x1_102c : Cap) (x5_103 : Int) (M : Mem) : p22_1 call meth x0_101a x0_101l x0_101c x1_102a x1_102l x1_102c x5_103 M = (cond (decide (x5_103 < ((x0_101l : Nat) : Int))) (cond (decide (0 ≤ x5_103)) (cond (Nat.blt x5_103.toNat x0_101l) (Option.bind (slPtr x0_101a x0_101c) fun p201 => (Option.bind (M.ldI .u8 p201.1 (p201.2 + x5_103.toNat * 1)) fun x202 => (cond (decide (0 ≤ x5_103)) (cond (Nat.blt x5_103.toNat x1_102l) (Option.bind (slPtr x1_102a x1_102c) fun p203 => (Option.bind (M.ldI .u8 p203.1 (p203.2 + x5_103.toNat * 1)) fun x204 => (cond (x202 != x204) (some (.bool false, M)) (p22_1 call meth x0_101a x0_101l x0_101c x1_102a x1_102l x1_102c (IntKind.wrap .i64 (x5_103 + 1)) M)))) none) none))) none) none) (some (.bool true, M))) :=
  (seg_run false call meth F22.results 100000 [.code C22_8, .inLoop C22_9, .inBlock 0, .code C22_2] _ M).symm.trans (by kernel_rfl)
theorem run22 (x0_1a : Ad) (x0_1l : Nat) (x0_1c : Cap) (x1_2a : Ad) (x1_2l : Nat) (x1_2c : Cap) (M : Mem) : run false call meth F22.results [.code F22.body] (frame0 F22 [.sl x0_1a x0_1l x0_1c, .sl x1_2a x1_2l x1_2c]) M = p22_0 call meth x0_1a x0_1l x0_1c x1_2a x1_2l x1_2c M := by kernel_rfl
theorem ok22 : okFn Try.prog 22 F22 = true := by kernel_rfl
def C39_1 : AC := .ret
def C39_2 : AC := .seq (.reg (.o 14 (.mov (.t 4)) (.o 15 (.build [.ptr none, .int .i64 0] [(0, 1, (.t 14)), (1, 1, (.c (.int .i64 1)))]) (.o 16 (.box (.t 15)) (.o 2 (.mov (.t 16)) (.o 3 (.mov (.c (.int .i64 0))) .nil))))) []) C39_1
def C39_3 : AC := .ret
def C39_4 : AC := .cond (.t 12) (.seq (.reg (.o 13 (.mov (.t 5)) (.o 2 (.mov (.c (.ptr none))) (.o 3 (.mov (.t 13)) .nil))) []) C39_3) .skip
def C39_5 : AC := .seq (.seq (.reg (.o 11 (.mov (.t 5)) (.o 12 (.bin .neq (.t 11) (.c (.int .i64 0))) .nil)) []) C39_4) C39_2
def C39_6 : AC := .seq (.reg (.o 7 (.mov (.t 0)) (.o 8 (.call 63 [(.t 7), (.c (.int .i64 64)), (.c (.int .i64 64))] (.tup [.one .ptr, .one (.int .i64)])) (.o 6 (.mov (.t 8)) (.o 9 (.ext (.t 6) 0) (.o 10 (.ext (.t 6) 1) (.o 4 (.mov (.t 9)) (.o 5 (.mov (.t 10)) .nil))))))) []) C39_5
def C39_7 : AC := .seq (.reg (.o 2 (.mov (.c (.ptr none))) (.o 3 (.mov (.c (.int .i64 0))) .nil)) []) C39_6
def F39 : AFunc := { ntmps := 17, results := [.tmp 2, .tmp 3], body := C39_7 }
def p39_0 (x0_1a : Ad) (x0_1l : Nat) (x0_1c : Cap) (M : Mem) : Rs := run false call meth F39.results [.code C39_7] (some (.sl x0_1a x0_1l x0_1c) :: nn 16 []) M
theorem p39_0_eq (x0_1a : Ad) (x0_1l : Nat) (x0_1c : Cap) (M : Mem) : p39_0 call meth x0_1a x0_1l x0_1c M = (Option.bind (call 63 [.sl x0_1a x0_1l x0_1c, .int .i64 64, .int .i64 64] M) fun r101 => (Option.bind r101.1.tup? fun l102 => (Option.bind l102.head? fun v103 => (Option.bind (v103.ptr?) fun x104 => (Option.bind l102.tail.head? fun v105 => (Option.bind (v105.int? .i64) fun x106 => (cond l102.tail.tail.isEmpty (cond (x106 != 0) (some (.tup [.ptr none, .int .i64 x106], r101.2)) (let M107 := r101.2.alloc ⟨[.ptr x104, .int .i64 1], .fixed⟩; (some (.tup [.ptr (some (r101.2.n, 0)), .int .i64 0], M107)))) none))))))) :=
  (seg_run false call meth F39.results 100000 [.code C39_7] _ M).symm.trans (by kernel_rfl)
theorem run39 (x0_1a : Ad) (x0_1l : Nat) (x0_1c : Cap) (M : Mem) : run false call meth F39.results [.code F39.body] (frame0 F39 [.sl x0_1a x0_1l x0_1c]) M = p39_0 call meth x0_1a x0_1l x0_1c M := by kernel_rfl
theorem ok39 : okFn Try.prog 39 F39 = true := by kernel_rfl
def C40_1 : AC := .ret
def C40_2 : AC := .seq (.reg (.o 2 (.mov (.c (.int .i64 0))) .nil) []) C40_1
def C40_3 : AC := .ret
def C40_4 : AC := .cond (.t 15) (.seq (.reg (.o 16 (.mov (.t 4)) (.o 2 (.mov (.t 16)) .nil)) []) C40_3) .skip
def C40_5 : AC := .seq (.reg (.o 10 (.mov (.t 4)) (.o 11 (.bin .eql (.t 10) (.c (.int .i64 1))) (.o 12 (.mov (.t 11)) (.grp 12 false (.o 13 (.mov (.t 4)) (.o 14 (.bin .eql (.t 13) (.c (.int .i64 40))) .nil)) (.o 15 (.pick (.t 12) (.c (.bool true)) (.t 14)) .nil))))) []) C40_4
def C40_6 : AC := .seq (.seq (.reg (.o 6 (.mov (.t 0)) (.o 7 (.call 64 [(.t 6), (.c (.int .i64 0)), (.c (.int .i64 1))] (.tup [.one (.int .u64), .one (.int .i64)])) (.o 5 (.mov (.t 7)) (.o 8 (.ext (.t 5) 0) (.o 9 (.ext (.t 5) 1) (.o 3 (.mov (.t 8)) (.o 4 (.mov (.t 9)) .nil))))))) []) C40_5) C40_2
def C40_7 : AC := .seq (.reg (.o 2 (.mov (.c (.int .i64 0))) .nil) []) C40_6
def F40 : AFunc := { ntmps := 17, results := [.tmp 2], body := C40_7 }
def p40_0 (x0_1 : Ad) (M : Mem) : Rs := run false call meth F40.results [.code C40_7] (some (.ptr x0_1) :: nn 16 []) M
theorem p40_0_eq (x0_1 : Ad) (M : Mem) : p40_0 call meth x0_1 M = (Option.bind (call 64 [.ptr x0_1, .int .i64 0, .int .i64 1] M) fun r101 => (Option.bind r101.1.tup? fun l102 => (Option.bind l102.head? fun v103 => (Option.bind (v103.int? .u64) fun x104 => (Option.bind l102.tail.head? fun v105 => (Option.bind (v105.int? .i64) fun x106 => (cond l102.tail.tail.isEmpty (cond (x106 == 1) (some (.int .i64 x106, r101.2)) (cond (x106 == 40) (some (.int .i64 x106, r101.2)) (some (.int .i64 0, r101.2)))) none))))))) :=
  (seg_run false call meth F40.results 100000 [.code C40_7] _ M).symm.trans (by kernel_rfl)
theorem run40 (x0_1 : Ad) (M : Mem) : run false call meth F40.results [.code F40.body] (frame0 F40 [.ptr x0_1]) M = p40_0 call meth x0_1 M := by kernel_rfl
theorem ok40 : okFn Try.prog 40 F40 = true := by kernel_rfl
def C41_1 : AC := .ret
def C41_2 : AC := .seq (.reg (.o 5 (.bslice [] [] 0) (.o 6 (.mov (.t 0)) (.o 7 (.app 1 16 (.t 5) (.t 6)) (.o 2 (.mov (.t 7)) .nil)))) []) C41_1
def C41_3 : AC := .ret
def C41_4 : AC := .cond (.t 4) (.seq (.reg (.o 2 (.mov (.c (.sl none 0 (.known 0)))) .nil) []) C41_3) .skip
def C41_5 : AC := .seq (.seq (.reg (.o 3 (.mov (.t 0)) (.o 4 (.eq false .sl (.t 3) (.c (.sl none 0 (.known 0)))) .nil)) []) C41_4) C41_2
def C41_6 : AC := .seq (.reg (.o 2 (.mov (.c (.sl none 0 (.known 0)))) .nil) []) C41_5
def F41 : AFunc := { ntmps := 8, results := [.tmp 2], body := C41_6 }
def p41_0 (x0_1a : Ad) (x0_1l : Nat) (x0_1c : Cap) (M : Mem) : Rs := run false call meth F41.results [.code C41_6] (some (.sl x0_1a x0_1l x0_1c) :: nn 7 []) M
theorem p41_0_eq (x0_1a : Ad) (x0_1l : Nat) (x0_1c : Cap) (M : Mem) : p41_0 call meth x0_1a x0_1l x0_1c M = (cond x0_1a.isNone (some (.sl none 0 (.known 0), M)) (let M101 := M.alloc ⟨[], .fixed⟩; (appK false 1 16 M101 (some (M.n, 0)) 0 (.known 0) (.sl x0_1a x0_1l x0_1c) fun s102a s102l s102c M103 => (some (.sl s102a s102l s102c, M103))))) :=
  (seg_run false call meth F41.results 100000 [.code C41_6] _ M).symm.trans (by kernel_rfl)
theorem run41 (x0_1a : Ad) (x0_1l : Nat) (x0_1c : Cap) (M : Mem) : run false call meth F41.results [.code F41.body] (frame0 F41 [.sl x0_1a x0_1l x0_1c]) M = p41_0 call meth x0_1a x0_1l x0_1c M := by kernel_rfl
theorem ok41 : okFn Try.prog 41 F41 = true := by kernel_rfl
def C44_1 : AC := .ret
def C44_2 : AC := .seq (.reg (.o 2 (.mov (.c (.int .i64 0))) .nil) []) C44_1
def C44_3 : AC := .ret
def C44_4 : AC := .ret
def C44_5 : AC := .cond (.t 13) (.seq (.reg (.o 2 (.mov (.c (.int .i64 40))) .nil) []) C44_4) .skip
def C44_6 : AC := .cond (.t 3) (.seq (.reg (.o 2 (.mov (.c (.int .i64 1))) .nil) []) C44_3) (.seq (.reg (.o 14 (.mov (.t 0)) (.o 15 (.nilCk (.t 14)) (.o 16 (.fldA 1 (.t 15)) (.o 17 (.load1 .ptr (.t 16)) (.o 18 (.eq false .ptr (.t 17) (.c (.ptr none))) (.o 13 (.mov (.t 18)) .nil)))))) []) C44_5)
def C44_7 : AC := .seq (.block 0 (.seq (.reg (.o 4 (.mov (.t 0)) (.o 5 (.eq false .ptr (.t 4) (.c (.ptr none))) (.o 6 (.mov (.t 5)) (.grp 6 false (.o 7 (.mov (.t 0)) (.o 8 (.nilCk (.t 7)) (.o 9 (.fldA 0 (.t 8)) (.o 10 (.load1 .bool (.t 9)) (.o 11 (.not (.t 10)) .nil))))) (.o 12 (.pick (.t 6) (.c (.bool true)) (.t 11)) (.o 3 (.mov (.t 12)) .nil)))))) []) C44_6)) C44_2
def C44_8 : AC := .seq (.reg (.o 2 (.mov (.c (.int .i64 0))) .nil) []) C44_7
def F44 : AFunc := { ntmps := 19, results := [.tmp 2], body := C44_8 }
def p44_0 (x0_1 : Ad) (M : Mem) : Rs := run false call meth F44.results [.code C44_8] (some (.ptr x0_1) :: nn 18 []) M
theorem p44_0_eq (x0_1 : Ad) (M : Mem) : p44_0 call meth x0_1 M = (cond x0_1.isNone (some (.int .i64 1, M)) (Option.bind x0_1 fun p101 => (Option.bind (M.ldB p101.1 (p101.2 + 0)) fun x102 => (cond (!x102) (some (.int .i64 1, M)) (Option.bind x0_1 fun p103 => (Option.bind (M.ldP p103.1 (p103.2 + 1)) fun x104 => (cond x104.isNone (some (.int .i64 40, M)) (some (.int .i64 0, M))))))))) :=
  (seg_run false call meth F44.results 100000 [.code C44_8] _ M).symm.trans (by kernel_rfl)
theorem run44 (x0_1 : Ad) (M : Mem) : run false call meth F44.results [.code F44.body] (frame0 F44 [.ptr x0_1]) M = p44_0 call meth x0_1 M := by kernel_rfl
theorem ok44 : okFn Try.prog 44 F44 = true := by kernel_rfl
def C45_1 : AC := .ret
def C45_2 : AC := .seq (.reg (.o 3 (.mov (.t 0)) (.o 4 (.call 65 [(.t 3)] (.r (.one .sl))) (.o 5 (.call 49 [(.t 4)] (.r (.one .sl))) (.o 2 (.mov (.t 5)) .nil)))) []) C45_1
def C45_3 : AC := .seq (.reg (.o 2 (.mov (.c (.sl none 0 (.known 0)))) .nil) []) C45_2
def F45 : AFunc := { ntmps := 6, results := [.tmp 2], body := C45_3 }
def p45_0 (x0_1 : Ad) (M : Mem) : Rs := run false call meth F45.results [.code C45_3] (some (.ptr x0_1) :: nn 5 []) M
theorem p45_0_eq (x0_1 : Ad) (M : Mem) : p45_0 call meth x0_1 M = (Option.bind (call 65 [.ptr x0_1] M) fun r101 => (Option.bind (r101.1.sl?) fun x102 => (Option.bind (call 49 [.sl x102.1 x102.2.1 x102.2.2] r101.2) fun r103 => (Option.bind (r103.1.sl?) fun x104 => (some (.sl x104.1 x104.2.1 x104.2.2, r103.2)))))) :=
  (seg_run false call meth F45.results 100000 [.code C45_3] _ M).symm.trans (by kernel_rfl)
theorem run45 (x0_1 : Ad) (M : Mem) : run false call meth F45.results [.code F45.body] (frame0 F45 [.ptr x0_1]) M = p45_0 call meth x0_1 M := by kernel_rfl
theorem ok45 : okFn Try.prog 45 F45 = true := by kernel_rfl
def C46_1 : AC := .ret
def C46_2 : AC := .seq (.reg (.o 3 (.mov (.t 0)) (.o 4 (.eq true .ptr (.t 3) (.c (.ptr none))) (.o 5 (.mov (.t 4)) (.grp 5 true (.o 6 (.mov (.t 0)) (.o 7 (.nilCk (.t 6)) (.o 8 (.fldA 0 (.t 7)) (.o 9 (.load1 .ptr (.t 8)) (.o 10 (.eq true .ptr (.t 9) (.c (.ptr none))) .nil))))) (.o 11 (.pick (.t 5) (.t 10) (.c (.bool false))) (.o 2 (.mov (.t 11)) .nil)))))) []) C46_1
def C46_3 : AC := .seq (.reg (.o 2 (.mov (.c (.bool false))) .nil) []) C46_2
def F46 : AFunc := { ntmps := 12, results := [.tmp 2], body := C46_3 }
def p46_0 (x0_1 : Ad) (M : Mem) : Rs := run false call meth F46.results [.code C46_3] (some (.ptr x0_1) :: nn 11 []) M
theorem p46_0_eq (x0_1 : Ad) (M : Mem) : p46_0 call meth x0_1 M = (cond (!x0_1.isNone) (Option.bind x0_1 fun p101 => (Option.bind (M.ldP p101.1 (p101.2 + 0)) fun x102 => (some (.bool (!x102.isNone), M)))) (some (.bool false, M))) :=
  (seg_run false call meth F46.results 100000 [.code C46_3] _ M).symm.trans (by kernel_rfl)
theorem run46 (x0_1 : Ad) (M : Mem) : run false call meth F46.results [.code F46.body] (frame0 F46 [.ptr x0_1]) M = p46_0 call meth x0_1 M := by kernel_rfl
theorem ok46 : okFn Try.prog 46 F46 = true := by kernel_rfl
def C47_1 : AC := .ret
def C47_2 : AC := .seq (.reg (.o 179 (.mov (.t 16)) (.o 10 (.mov (.t 179)) .nil)) []) C47_1
def C47_3 : AC := .ret
def C47_4 : AC := .cond (.t 178) (.seq (.reg (.o 10 (.mov (.c (.int .u64 0))) .nil) []) C47_3) .skip
def C47_5 : AC := .seq (.seq (.reg (.o 177 (.mov (.t 17)) (.o 178 (.bin .neq (.t 177) (.c (.int .i64 0))) .nil)) []) C47_4) C47_2
def C47_6 : AC := .seq (.drw (.o 157 (.mov (.t 0)) (.o 158 (.nilCk (.t 157)) (.o 159 (.fldA 0 (.t 158)) (.o 160 (.load1 .ptr (.t 159)) (.o 161 (.mov (.t 2)) (.o 162 (.convI .i64 (.t 161)) (.o 163 (.mov (.t 3)) (.o 164 (.convI .i64 (.t 163)) (.o 165 (.build [.int .i64 0, .int .i64 0] [(0, 1, (.t 162)), (1, 1, (.t 164))]) (.o 166 (.mov (.t 0)) (.o 167 (.nilCk (.t 166)) (.o 168 (.fldA 2 (.t 167)) (.o 169 (.load1 .sl (.t 168)) (.o 170 (.mov (.t 15)) (.o 171 (.ixS 1 (.t 169) (.t 170)) (.o 172 (.load1 .ifc (.t 171)) (.o 173 (.mov (.t 4)) (.o 174 (.call 72 [(.t 160), (.t 165), (.t 172), (.t 173)] (.tup [.one (.int .u64), .one (.int .i64)])) (.o 156 (.mov (.t 174)) (.o 175 (.ext (.t 156) 0) (.o 176 (.ext (.t 156) 1) (.o 16 (.mov (.t 175)) (.o 17 (.mov (.t 176)) .nil))))))))))))))))))))))) [] []) C47_5
def C47_7 : AC := .kil (1 :: rg 5 10 (rg 16 164 [])) (.pt C47_6)
def C47_8 : AC := .ret
def C47_9 : AC := .cond (.t 155) (.seq (.reg (.o 10 (.mov (.c (.int .u64 0))) .nil) []) C47_8) .skip
def C47_10 : AC := .seq (.seq (.reg (.o 132 (.mov (.t 15)) (.o 133 (.mov (.t 0)) (.o 134 (.nilCk (.t 133)) (.o 135 (.fldA 2 (.t 134)) (.o 136 (.load1 .sl (.t 135)) (.o 137 (.len (.t 136)) (.o 138 (.bin .geq (.t 132) (.t 137)) (.o 139 (.mov (.t 138)) (.grp 139 false (.o 140 (.mov (.t 0)) (.o 141 (.nilCk (.t 140)) (.o 142 (.fldA 2 (.t 141)) (.o 143 (.load1 .sl (.t 142)) (.o 144 (.mov (.t 15)) (.o 145 (.ixS 1 (.t 143) (.t 144)) (.o 146 (.load1 .ifc (.t 145)) (.o 147 (.eq false .ifc (.t 146) (.c (.ifc none (.tup [])))) .nil)))))))) (.o 148 (.pick (.t 139) (.c (.bool true)) (.t 147)) (.o 149 (.mov (.t 148)) (.grp 149 false (.o 150 (.mov (.t 0)) (.o 151 (.mov (.t 2)) (.o 152 (.mov (.t 3)) (.o 153 (.call 66 [(.t 150), (.t 151), (.t 152)] (.r (.one .bool))) (.o 154 (.not (.t 153)) .nil))))) (.o 155 (.pick (.t 149) (.c (.bool true)) (.t 154)) .nil))))))))))))) []) C47_9) C47_7
def C47_11 : AC := .seq (.reg (.o 129 (.mov (.t 1)) (.o 130 (.bin .sub (.t 129) (.c (.int .i32 16))) (.o 131 (.convI .i64 (.t 130)) (.o 15 (.mov (.t 131)) .nil)))) []) C47_10
def C47_12 : AC := .ret
def C47_13 : AC := .seq (.reg (.o 40 (.mov (.t 11)) (.o 10 (.mov (.t 40)) .nil)) []) C47_12
def C47_14 : AC := .ret
def C47_15 : AC := .cond (.t 39) (.seq (.reg (.o 10 (.mov (.c (.int .u64 0))) .nil) []) C47_14) .skip
def C47_16 : AC := .seq (.seq (.reg (.o 38 (.mov (.t 12)) (.o 39 (.bin .neq (.t 38) (.c (.int .i64 0))) .nil)) []) C47_15) C47_13
def C47_17 : AC := .seq (.reg (.o 27 (.mov (.t 0)) (.o 28 (.nilCk (.t 27)) (.o 29 (.fldA 0 (.t 28)) (.o 30 (.load1 .ptr (.t 29)) (.o 31 (.mov (.t 2)) (.o 32 (.convI .i64 (.t 31)) (.o 33 (.mov (.t 3)) (.o 34 (.convI .i64 (.t 33)) (.o 35 (.call 64 [(.t 30), (.t 32), (.t 34)] (.tup [.one (.int .u64), .one (.int .i64)])) (.o 26 (.mov (.t 35)) (.o 36 (.ext (.t 26) 0) (.o 37 (.ext (.t 26) 1) (.o 11 (.mov (.t 36)) (.o 12 (.mov (.t 37)) .nil)))))))))))))) []) C47_16
def C47_18 : AC := .ret
def C47_19 : AC := .cond (.t 25) (.seq (.reg (.o 10 (.mov (.c (.int .u64 0))) .nil) []) C47_18) .skip
def C47_20 : AC := .seq (.seq (.reg (.o 21 (.mov (.t 0)) (.o 22 (.mov (.t 2)) (.o 23 (.mov (.t 3)) (.o 24 (.call 66 [(.t 21), (.t 22), (.t 23)] (.r (.one .bool))) (.o 25 (.not (.t 24)) .nil))))) []) C47_19) C47_17
def C47_21 : AC := .ret
def C47_22 : AC := .seq (.reg (.o 48 (.mov (.t 0)) (.o 49 (.nilCk (.t 48)) (.o 50 (.fldA 0 (.t 49)) (.o 51 (.load1 .ptr (.t 50)) (.o 52 (.mov (.t 2)) (.o 53 (.convI .i64 (.t 52)) (.o 54 (.mov (.t 3)) (.o 55 (.convI .i64 (.t 54)) (.o 56 (.mov (.t 4)) (.o 57 (.call 68 [(.t 51), (.t 53), (.t 55), (.t 56)] (.r (.one (.int .i64)))) (.o 58 (.callP 67 [(.t 57)] (.r (.one (.int .u64)))) (.o 10 (.mov (.t 58)) .nil)))))))))))) []) C47_21
def C47_23 : AC := .ret
def C47_24 : AC := .cond (.t 47) (.seq (.reg (.o 10 (.mov (.c (.int .u64 0))) .nil) []) C47_23) .skip
def C47_25 : AC := .ret
def C47_26 : AC := .ret
def C47_27 : AC := .ret
def C47_28 : AC := .seq (.reg (.o 10 (.mov (.c (.int .u64 1))) .nil) []) C47_27
def C47_29 : AC := .seq (.drw (.o 88 (.mov (.t 0)) (.o 89 (.mov (.t 0)) (.o 90 (.nilCk (.t 89)) (.o 91 (.fldA 3 (.t 90)) (.o 92 (.load1 .sl (.t 91)) (.o 93 (.mov (.t 2)) (.o 94 (.convI .i64 (.t 93)) (.o 95 (.mov (.t 0)) (.o 96 (.nilCk (.t 95)) (.o 97 (.fldA 0 (.t 96)) (.o 98 (.load1 .ptr (.t 97)) (.o 99 (.call 16 [(.t 98)] (.r (.one .sl))) (.o 100 (.build [.int .i64 0, .sl none 0 (.known 0)] [(0, 1, (.t 94)), (1, 1, (.t 99))]) (.o 101 (.bslice [.int .i64 0, .sl none 0 (.known 0)] [(0, 2, (.t 100))] 1) (.o 102 (.app 2 32 (.t 92) (.t 101)) (.o 103 (.nilCk (.t 88)) (.o 104 (.fldA 3 (.t 103)) (.op none (.store 1 (.t 104) (.t 102)) .nil)))))))))))))))))) [(4, 11), (4, 13)] []) C47_28
def C47_30 : AC := .kil (1 :: rg 3 177 []) (.pt C47_29)
def C47_31 : AC := .ret
def C47_32 : AC := .cond (.t 87) (.seq (.reg (.o 10 (.mov (.c (.int .u64 0))) .nil) []) C47_31) .skip
def C47_33 : AC := .seq (.seq (.reg (.o 78 (.mov (.t 2)) (.o 79 (.bin .geq (.t 78) (.c (.int .u64 8))) (.o 80 (.mov (.t 79)) (.grp 80 false (.o 81 (.mov (.t 0)) (.o 82 (.nilCk (.t 81)) (.o 83 (.fldA 3 (.t 82)) (.o 84 (.load1 .sl (.t 83)) (.o 85 (.len (.t 84)) (.o 86 (.bin .geq (.t 85) (.c (.int .i64 8))) .nil)))))) (.o 87 (.pick (.t 80) (.c (.bool true)) (.t 86)) .nil))))) []) C47_32) C47_30
def C47_34 : AC := .ret
def C47_35 : AC := .seq (.reg (.o 10 (.mov (.c (.int .u64 1))) .nil) []) C47_34
def C47_36 : AC := .seq (.reg (.o 109 (.mov (.t 0)) (.o 110 (.mov (.t 2)) (.o 111 (.convI .i64 (.t 110)) (.o 112 (.nilCk (.t 109)) (.o 113 (.fldA 4 (.t 112)) (.op none (.store 1 (.t 113) (.t 111)) .nil)))))) []) C47_35
def C47_37 : AC := .ret
def C47_38 : AC := .cond (.t 108) (.seq (.reg (.o 10 (.mov (.c (.int .u64 0))) .nil) []) C47_37) .skip
def C47_39 : AC := .ret
def C47_40 : AC := .seq (.reg (.o 128 (.mov (.t 13)) (.o 10 (.mov (.t 128)) .nil)) []) C47_39
def C47_41 : AC := .cond (.t 114) (.seq (.reg (.o 117 (.mov (.t 0)) (.o 118 (.nilCk (.t 117)) (.o 119 (.fldA 1 (.t 118)) (.o 120 (.load1 .sl (.t 119)) (.o 121 (.mov (.t 2)) (.o 122 (.ixS 1 (.t 120) (.t 121)) (.o 123 (.load1 .sl (.t 122)) (.o 124 (.mov (.t 3)) (.o 125 (.call 71 [(.t 123), (.t 124)] (.tup [.one (.int .u64), .one .bool])) (.o 116 (.mov (.t 125)) (.o 126 (.ext (.t 116) 0) (.o 127 (.ext (.t 116) 1) (.o 13 (.mov (.t 126)) (.o 14 (.mov (.t 127)) .nil)))))))))))))) []) C47_40) .skip
def C47_42 : AC := .cond (.t 105) (.seq (.seq (.reg (.o 107 (.mov (.t 2)) (.o 108 (.bin .geq (.t 107) (.c (.int .u64 8))) .nil)) []) C47_38) C47_36) (.seq (.reg (.o 115 (.bin .eql (.t 18) (.c (.int .i32 8))) (.o 114 (.mov (.t 115)) .nil)) []) C47_41)
def C47_43 : AC := .cond (.t 76) (.kil (1 :: rg 3 177 []) (.pt C47_33)) (.seq (.reg (.o 106 (.bin .eql (.t 18) (.c (.int .i32 7))) (.o 105 (.mov (.t 106)) .nil)) []) C47_42)
def C47_44 : AC := .cond (.t 68) (.seq (.reg (.o 70 (.mov (.t 0)) (.o 71 (.mov (.t 2)) (.o 72 (.mov (.t 3)) (.o 73 (.mov (.t 4)) (.o 74 (.convI .u16 (.t 73)) (.o 75 (.call 70 [(.t 70), (.t 71), (.t 72), (.t 74)] (.r (.one (.int .u64)))) (.o 10 (.mov (.t 75)) .nil))))))) []) C47_26) (.seq (.reg (.o 77 (.bin .eql (.t 18) (.c (.int .i32 6))) (.o 76 (.mov (.t 77)) .nil)) []) C47_43)
def C47_45 : AC := .cond (.t 59) (.seq (.reg (.o 62 (.mov (.t 0)) (.o 63 (.mov (.t 2)) (.o 64 (.convI .i64 (.t 63)) (.o 65 (.mov (.t 1)) (.o 66 (.bin .eql (.t 65) (.c (.int .i32 3))) (.o 67 (.call 69 [(.t 62), (.t 64), (.t 66)] (.r (.one (.int .u64)))) (.o 10 (.mov (.t 67)) .nil))))))) []) C47_25) (.seq (.reg (.o 69 (.bin .eql (.t 18) (.c (.int .i32 5))) (.o 68 (.mov (.t 69)) .nil)) []) C47_44)
def C47_46 : AC := .kil (rg 5 13 (rg 19 40 (rg 60 120 []))) (.pt C47_45)
def C47_47 : AC := .cond (.t 59) .skip (.reg (.o 61 (.bin .eql (.t 18) (.c (.int .i32 4))) (.o 59 (.mov (.t 61)) .nil)) [])
def C47_48 : AC := .seq (.seq (.reg (.o 60 (.bin .eql (.t 18) (.c (.int .i32 3))) (.o 59 (.mov (.t 60)) .nil)) []) C47_47) C47_46
def C47_49 : AC := .cond (.t 41) (.seq (.seq (.reg (.o 43 (.mov (.t 0)) (.o 44 (.mov (.t 2)) (.o 45 (.mov (.t 3)) (.o 46 (.call 66 [(.t 43), (.t 44), (.t 45)] (.r (.one .bool))) (.o 47 (.not (.t 46)) .nil))))) []) C47_24) C47_22) (.kil (rg 5 13 (rg 19 161 [])) (.pt C47_48))
def C47_50 : AC := .cond (.t 19) (.kil (1 :: rg 4 176 []) (.pt C47_20)) (.seq (.reg (.o 42 (.bin .eql (.t 18) (.c (.int .i32 2))) (.o 41 (.mov (.t 42)) .nil)) []) C47_49)
def C47_51 : AC := .block 0 (.seq (.reg (.o 20 (.bin .eql (.t 18) (.c (.int .i32 1))) (.o 19 (.mov (.t 20)) .nil)) []) C47_50)
def C47_52 : AC := .seq (.seq (.reg (.o 18 (.mov (.t 1)) .nil) []) C47_51) C47_11
def C47_53 : AC := .seq (.reg (.o 10 (.mov (.c (.int .u64 0))) .nil) []) C47_52
def F47 : AFunc := { ntmps := 180, results := [.tmp 10], body := C47_53 }
def p47_0 (x0_1 : Ad) (x1_2 : Int) (x2_3 : Int) (x3_4 : Int) (x4_5 : Int) (M : Mem) : Rs := run false call meth F47.results [.code C47_53] (some (.ptr x0_1) :: some (.int .i32 x1_2) :: some (.int .u64 x2_3) :: some (.int .u64 x3_4) :: some (.int .u64 x4_5) :: nn 175 []) M
def p47_1 (x0_101 : Ad) (x2_102 : Int) (x3_103 : Int) (M : Mem) : Rs := run false call meth F47.results [.code C47_20, .inBlock 0, .code C47_11] (some (.ptr x0_101) :: none :: some (.int .u64 x2_102) :: some (.int .u64 x3_103) :: nn 176 []) M
def p47_2 (x0_112 : Ad) (x1_113 : Int) (x2_114 : Int) (x3_115 : Int) (x4_116 : Int) (x18_117 : Int) (M : Mem) : Rs := run false call meth F47.results [.code C47_48, .inBlock 0, .code C47_11] (some (.ptr x0_112) :: some (.int .i32 x1_113) :: some (.int .u64 x2_114) :: some (.int .u64 x3_115) :: some (.int .u64 x4_116) :: nn 13 (some (.int .i32 x18_117) :: nn 161 [])) M
def p47_3 (x0_301 : Ad) (x1_302 : Int) (x2_303 : Int) (x3_304 : Int) (x4_305 : Int) (x18_306 : Int) (x59_307 : Bool) (M : Mem) : Rs := run false call meth F47.results [.code C47_45, .inBlock 0, .code C47_11] (some (.ptr x0_301) :: some (.int .i32 x1_302) :: some (.int .u64 x2_303) :: some (.int .u64 x3_304) :: some (.int .u64 x4_305) :: nn 13 (some (.int .i32 x18_306) :: nn 40 (some (.bool x59_307) :: nn 120 []))) M
def p47_4 (x0_405 : Ad) (x2_406 : Int) (M : Mem) : Rs := run false call meth F47.results [.code C47_33, .inBlock 0, .code C47_11] (some (.ptr x0_405) :: none :: some (.int .u64 x2_406) :: nn 177 []) M
def p47_5 (x0_427 : Ad) (x2_428 : Int) (x3_429 : Int) (x4_430 : Int) (x15_431 : Int) (M : Mem) : Rs := run false call meth F47.results [.code C47_6] (some (.ptr x0_427) :: none :: some (.int .u64 x2_428) :: some (.int .u64 x3_429) :: some (.int .u64 x4_430) :: nn 10 (some (.int .i64 x15_431) :: nn 164 [])) M
def p47_6 (x0_503 : Ad) (x2_504 : Int) (M : Mem) : Rs := run false call meth F47.results [.code C47_29, .inBlock 0, .code C47_11] (some (.ptr x0_503) :: none :: some (.int .u64 x2_504) :: nn 177 []) M
theorem p47_0_eq (x0_1 : Ad) (x1_2 : Int) (x2_3 : Int) (x3_4 : Int) (x4_5 : Int) (M : Mem) : p47_0 call meth x0_1 x1_2 x2_3 x3_4 x4_5 M = (cond (x1_2 == 1) (p47_1 call meth x0_1 x2_3 x3_4 M) (cond (x1_2 == 2) (Option.bind (call 66 [.ptr x0_1, .int .u64 x2_3, .int .u64 x3_4] M) fun r104 => (Option.bind (r104.1.bool?) fun x105 => (cond (!x105) (some (.int .u64 0, r104.2)) (Option.bind x0_1 fun p106 => (Option.bind (r104.2.ldP p106.1 (p106.2 + 0)) fun x107 => (Option.bind (call 68 [.ptr x107, .int .i64 (IntKind.wrap .i64 x2_3), .int .i64 (IntKind.wrap .i64 x3_4), .int .u64 x4_5] r104.2) fun r108 => (Option.bind (r108.1.int? .i64) fun x109 => (Option.bind (call 67 [.int .i64 x109] Mem.empty) fun r110 => (Option.bind (r110.1.int? .u64) fun x111 => (some (.int .u64 x111, r108.2))))))))))) (p47_2 call meth x0_1 x1_2 x2_3 x3_4 x4_5 x1_2 M))) :=
  (seg_run false call meth F47.results 100000 [.code C47_53] _ M).symm.trans (by kernel_rfl)
theorem p47_1_eq (x0_101 : Ad) (x2_102 : Int) (x3_103 : Int) (M : Mem) : p47_1 call meth x0_101 x2_102 x3_103 M = (Option.bind (call 66 [.ptr x0_101, .int .u64 x2_102, .int .u64 x3_103] M) fun r201 => (Option.bind (r201.1.bool?) fun x202 => (cond (!x202) (some (.int .u64 0, r201.2)) (Option.bind x0_101 fun p203 => (Option.bind (r201.2.ldP p203.1 (p203.2 + 0)) fun x204 => (Option.bind (call 64 [.ptr x204, .int .i64 (IntKind.wrap .i64 x2_102), .int .i64 (IntKind.wrap .i64 x3_103)] r201.2) fun r205 => (Option.bind r205.1.tup? fun l206 => (Option.bind l206.head? fun v207 => (Option.bind (v207.int? .u64) fun x208 => (Option.bind l206.tail.head? fun v209 => (Option.bind (v209.int? .i64) fun x210 => (cond l206.tail.tail.isEmpty (cond (x210 != 0) (some (.int .u64 0, r205.2)) (some (.int .u64 x208, r205.2))) none)))))))))))) :=
  (seg_run false call meth F47.results 100000 [.code C47_20, .inBlock 0, .code C47_11] _ M).symm.trans (by kernel_rfl)
theorem p47_2_eq (x0_112 : Ad) (x1_113 : Int) (x2_114 : Int) (x3_115 : Int) (x4_116 : Int) (x18_117 : Int) (M : Mem) : p47_2 call meth x0_112 x1_113 x2_114 x3_115 x4_116 x18_117 M = (cond (x18_117 == 3) (p47_3 call meth x0_112 x1_113 x2_114 x3_115 x4_116 x18_117 (x18_117 == 3) M) (p47_3 call meth x0_112 x1_113 x2_114 x3_115 x4_116 x18_117 (x18_117 == 4) M)) :=
  (seg_run false call meth F47.results 100000 [.code C47_48, .inBlock 0, .code C47_11] _ M).symm.trans (by kernel_rfl)
theorem p47_3_eq (x0_301 : Ad) (x1_302 : Int) (x2_303 : Int) (x3_304 : Int) (x4_305 : Int) (x18_306 : Int) (x59_307 : Bool) (M : Mem) : p47_3 call meth x0_301 x1_302 x2_303 x3_304 x4_305 x18_306 x59_307 M = (cond x59_307 (Option.bind (call 69 [.ptr x0_301, .int .i64 (IntKind.wrap .i64 x2_303), .bool (x1_302 == 3)] M) fun r401 => (Option.bind (r401.1.int? .u64) fun x402 => (some (.int .u64 x402, r401.2)))) (cond (x18_306 == 5) (Option.bind (call 70 [.ptr x0_301, .int .u64 x2_303, .int .u64 x3_304, .int .u16 (IntKind.wrap .u16 x4_305)] M) fun r403 => (Option.bind (r403.1.int? .u64) fun x404 => (some (.int .u64 x404, r403.2)))) (cond (x18_306 == 6) (p47_4 call meth x0_301 x2_303 M) (cond (x18_306 == 7) (cond (decide (x2_303 ≥ 8)) (some (.int .u64 0, M)) (Option.bind x0_301 fun p407 => (Option.bind (M.st p407.1 (p407.2 + 4) [.int .i64 (IntKind.wrap .i64 x2_303)]) fun M408 => (some (.int .u64 1, M408))))) (cond (x18_306 == 8) (Option.bind x0_301 fun p409 => (Option.bind (M.ldL p409.1 (p409.2 + 1)) fun x410 => (cond (decide (0 ≤ x2_303)) (cond (Nat.blt x2_303.toNat x410.2.1) (Option.bind (slPtr x410.1 x410.2.2) fun p411 => (Option.bind (M.ldL p411.1 (p411.2 + x2_303.toNat * 1)) fun x412 => (Option.bind (call 71 [.sl x412.1 x412.2.1 x412.2.2, .int .u64 x3_304] M) fun r413 => (Option.bind r413.1.tup? fun l414 => (Option.bind l414.head? fun v415 => (Option.bind (v415.int? .u64) fun x416 => (Option.bind l414.tail.head? fun v417 => (Option.bind (v417.bool?) fun x418 => (cond l414.tail.tail.isEmpty (some (.int .u64 x416, r413.2)) none))))))))) none) none))) (Option.bind x0_301 fun p419 => (Option.bind (M.ldL p419.1 (p419.2 + 2)) fun x420 => (cond (decide ((IntKind.wrap .i64 (IntKind.wrap .i32 (x1_302 - 16))) ≥ ((x420.2.1 : Nat) : Int))) (some (.int .u64 0, M)) (Option.bind x0_301 fun p421 => (Option.bind (M.ldL p421.1 (p421.2 + 2)) fun x422 => (cond (decide (0 ≤ (IntKind.wrap .i64 (IntKind.wrap .i32 (x1_302 - 16))))) (cond (Nat.blt ((IntKind.wrap .i64 (IntKind.wrap .i32 (x1_302 - 16))).toNat) x422.2.1) (Option.bind (slPtr x422.1 x422.2.2) fun p423 => (Option.bind (M.ldN p423.1 (p423.2 + ((IntKind.wrap .i64 (IntKind.wrap .i32 (x1_302 - 16))).toNat) * 1)) fun x424 => (cond x424.1.isNone (some (.int .u64 0, M)) (Option.bind (call 66 [.ptr x0_301, .int .u64 x2_303, .int .u64 x3_304] M) fun r425 => (Option.bind (r425.1.bool?) fun x426 => (cond (!x426) (some (.int .u64 0, r425.2)) (p47_5 call meth x0_301 x2_303 x3_304 x4_305 (IntKind.wrap .i64 (IntKind.wrap .i32 (x1_302 - 16))) r425.2))))))) none) none))))))))))) :=
  (seg_run false call meth F47.results 100000 [.code C47_45, .inBlock 0, .code C47_11] _ M).symm.trans (by kernel_rfl)
theorem p47_4_eq (x0_405 : Ad) (x2_406 : Int) (M : Mem) : p47_4 call meth x0_405 x2_406 M = (cond (decide (x2_406 ≥ 8)) (some (.int .u64 0, M)) (Option.bind x0_405 fun p501 => (Option.bind (M.ldL p501.1 (p501.2 + 3)) fun x502 => (cond (decide (((x502.2.1 : Nat) : Int) ≥ 8)) (some (.int .u64 0, M)) (p47_6 call meth x0_405 x2_406 M))))) :=
  (seg_run false call meth F47.results 100000 [.code C47_33, .inBlock 0, .code C47_11] _ M).symm.trans (by kernel_rfl)
theorem p47_5_eq (x0_427 : Ad) (x2_428 : Int) (x3_429 : Int) (x4_430 : Int) (x15_431 : Int) (M : Mem) : p47_5 call meth x0_427 x2_428 x3_429 x4_430 x15_431 M = (Option.bind x0_427 fun p601 => (Option.bind (M.ldP p601.1 (p601.2 + 0)) fun x602 => (Option.bind x0_427 fun p603 => (Option.bind (M.ldL p603.1 (p603.2 + 2)) fun x604 => (cond (decide (0 ≤ x15_431)) (cond (Nat.blt x15_431.toNat x604.2.1) (Option.bind (slPtr x604.1 x604.2.2) fun p605 => (Option.bind (M.ldN p605.1 (p605.2 + x15_431.toNat * 1)) fun x606 => (Option.bind (call 72 [.ptr x602, .agg [.int .i64 (IntKind.wrap .i64 x2_428), .int .i64 (IntKind.wrap .i64 x3_429)], .ifc x606.1 x606.2, .int .u64 x4_430] M) fun r607 => (Option.bind r607.1.tup? fun l608 => (Option.bind l608.head? fun v609 => (Option.bind (v609.int? .u64) fun x610 => (Option.bind l608.tail.head? fun v611 => (Option.bind (v611.int? .i64) fun x612 => (cond l608.tail.tail.isEmpty (cond (x612 != 0) (some (.int .u64 0, r607.2)) (some (.int .u64 x610, r607.2))) none))))))))) none) none))))) :=
  (seg_run false call meth F47.results 100000 [.code C47_6] _ M).symm.trans (by kernel_rfl)
theorem p47_6_eq (x0_503 : Ad) (x2_504 : Int) (M : Mem) : p47_6 call meth x0_503 x2_504 M = (Option.bind x0_503 fun p701 => (Option.bind (M.ldL p701.1 (p701.2 + 3)) fun x702 => (Option.bind x0_503 fun p703 => (Option.bind (M.ldP p703.1 (p703.2 + 0)) fun x704 => (Option.bind (call 16 [.ptr x704] M) fun r705 => (Option.bind (r705.1.sl?) fun x706 => (let M707 := r705.2.alloc ⟨[.int .i64 (IntKind.wrap .i64 x2_504), .sl x706.1 x706.2.1 x706.2.2], .fixed⟩; (appK false 2 32 M707 x702.1 x702.2.1 x702.2.2 (.sl (some (r705.2.n, 0)) 1 (.known 1)) fun s708a s708l s708c M709 => (Option.bind x0_503 fun p710 => (Option.bind (M709.st p710.1 (p710.2 + 3) [.sl s708a s708l s708c]) fun M711 => (cond (cond (r705.2.still p701.1 (p701.2 + 3) [.sl x702.1 x702.2.1 x702.2.2]) (cond (M707.still p701.1 (p701.2 + 3) [.sl x702.1 x702.2.1 x702.2.2]) true false) false) (some (.int .u64 1, M711)) none))))))))))) :=
  (seg_run false call meth F47.results 100000 [.code C47_29, .inBlock 0, .code C47_11] _ M).symm.trans (by kernel_rfl)
theorem run47 (x0_1 : Ad) (x1_2 : Int) (x2_3 : Int) (x3_4 : Int) (x4_5 : Int) (M : Mem) : run false call meth F47.results [.code F47.body] (frame0 F47 [.ptr x0_1, .int .i32 x1_2, .int .u64 x2_3, .int .u64 x3_4, .int .u64 x4_5]) M = p47_0 call meth x0_1 x1_2 x2_3 x3_4 x4_5 M := by kernel_rfl
theorem ok47 : okFn Try.prog 47 F47 = true := by kernel_rfl
def C48_1 : AC := .ret
def C48_2 : AC := .seq (.reg (.o 10 (.mov (.t 0)) (.o 11 (.convI .u16 (.t 10)) (.o 2 (.mov (.t 11)) .nil))) []) C48_1
def C48_3 : AC := .block 1 (.reg (.o 5 (.mov (.t 0)) (.o 6 (.shift .shr (.t 5) (.c (.int .u64 16))) (.o 7 (.mov (.t 0)) (.o 8 (.bin .and (.t 7) (.c (.int .u64 65535))) (.o 9 (.bin .add (.t 6) (.t 8)) (.o 0 (.mov (.t 9)) .nil)))))) [])
def C48_4 : AC := .cond (.t 4) .skip (.exit 0)
def C48_5 : AC := .seq (.seq (.reg (.o 3 (.mov (.t 0)) (.o 4 (.bin .gtr (.t 3) (.c (.int .u64 65535))) .nil)) []) C48_4) C48_3
def C48_6 : AC := .kil (rg 1 11 []) (.pt C48_5)
def C48_7 : AC := .seq (.block 0 (.loop C48_6)) C48_2
def C48_8 : AC := .seq (.reg (.o 2 (.mov (.c (.int .u16 0))) .nil) []) C48_7
def F48 : AFunc := { ntmps := 12, results := [.tmp 2], body := C48_8 }
def p48_0 (x0_1 : Int) (M : Mem) : Rs := run false call meth F48.results [.code C48_8] (some (.int .u64 x0_1) :: nn 11 []) M
def p48_1 (x0_101 : Int) (M : Mem) : Rs := run false call meth F48.results [.code C48_5, .inLoop C48_6, .inBlock 0, .code C48_2] (some (.int .u64 x0_101) :: nn 11 []) M
theorem p48_0_eq (x0_1 : Int) (M : Mem) : p48_0 call meth x0_1 M = (p48_1 call meth x0_1 M) :=
  (seg_run false call meth F48.results 100000 [.code C48_8] _ M).symm.trans (by kernel_rfl)
theorem p48_1_eq (x0_101 : Int) (M : Mem) : p48_1 call meth x0_101 M = (cond (decide (x0_101 > 65535)) (p48_1 call meth (IntKind.wrap .u64 ((Int.fdiv x0_101 (2 ^ Nat.min 16 (IntKind.bits .u64))) + (IntKind.wrap .u64 ((BitVec.ofInt (IntKind.bits .u64) x0_101 &&& BitVec.ofInt (IntKind.bits .u64) 65535).toNat)))) M) (some (.int .u16 (IntKind.wrap .u16 x0_101), M))) :=
  (seg_run false call meth F48.results 100000 [.code C48_5, .inLoop C48_6, .inBlock 0, .code C48_2] _ M).symm.trans (by kernel_rfl)
theorem run48 (x0_1 : Int) (M : Mem) : run false call meth F48.results [.code F48.body] (frame0 F48 [.int .u64 x0_1]) M = p48_0 call meth x0_1 M := by kernel_rfl
theorem ok48 : okFn Try.prog 48 F48 = true := by kernel_rfl
def C49_1 : AC := .ret
def C49_2 : AC := .seq (.reg (.o 5 (.bslice [] [] 0) (.o 6 (.mov (.t 0)) (.o 7 (.app 1 1 (.t 5) (.t 6)) (.o 2 (.mov (.t 7)) .nil)))) []) C49_1
def C49_3 : AC := .ret
def C49_4 : AC := .cond (.t 4) (.seq (.reg (.o 2 (.mov (.c (.sl none 0 (.known 0)))) .nil) []) C49_3) .skip
def C49_5 : AC := .seq (.seq (.reg (.o 3 (.mov (.t 0)) (.o 4 (.eq false .sl (.t 3) (.c (.sl none 0 (.known 0)))) .nil)) []) C49_4) C49_2
def C49_6 : AC := .seq (.reg (.o 2 (.mov (.c (.sl none 0 (.known 0)))) .nil) []) C49_5
def F49 : AFunc := { ntmps := 8, results := [.tmp 2], body := C49_6 }
def p49_0 (x0_1a : Ad) (x0_1l : Nat) (x0_1c : Cap) (M : Mem) : Rs := run false call meth F49.results [.code C49_6] (some (.sl x0_1a x0_1l x0_1c) :: nn 7 []) M
theorem p49_0_eq (x0_1a : Ad) (x0_1l : Nat) (x0_1c : Cap) (M : Mem) : p49_0 call meth x0_1a x0_1l x0_1c M = (cond x0_1a.isNone (some (.sl none 0 (.known 0), M)) (let M101 := M.alloc ⟨[], .fixed⟩; (appK false 1 1 M101 (some (M.n, 0)) 0 (.known 0) (.sl x0_1a x0_1l x0_1c) fun s102a s102l s102c M103 => (some (.sl s102a s102l s102c, M103))))) :=
  (seg_run false call meth F49.results 100000 [.code C49_6] _ M).symm.trans (by kernel_rfl)
theorem run49 (x0_1a : Ad) (x0_1l : Nat) (x0_1c : Cap) (M : Mem) : run false call meth F49.results [.code F49.body] (frame0 F49 [.sl x0_1a x0_1l x0_1c]) M = p49_0 call meth x0_1a x0_1l x0_1c M := by kernel_rfl
theorem ok49 : okFn Try.prog 49 F49 = true := by kernel_rfl
def C63_1 : AC := .ret
def C63_2 : AC := .seq (.reg (.o 35 (.mov (.t 8)) (.o 6 (.mov (.t 35)) (.o 7 (.mov (.c (.int .i64 0))) .nil))) []) C63_1
def C63_3 : AC := .seq (.reg (.o 30 (.mov (.t 8)) (.o 31 (.mov (.t 0)) (.o 32 (.mov (.t 1)) (.o 33 (.mov (.t 2)) (.o 34 (.call 87 [(.t 30), (.t 31), (.t 32), (.c (.int .i64 0)), (.c (.int .i64 0)), (.t 33)] (.tup [])) .nil))))) []) C63_2
def C63_4 : AC := .seq (.reg (.o 28 (.build [.bool false, .sl none 0 (.known 0), .int .i64 0, .int .i64 0, .int .i64 0] [(0, 1, (.c (.bool true)))]) (.o 29 (.box (.t 28)) (.o 8 (.mov (.t 29)) .nil))) []) C63_3
def C63_5 : AC := .kil (rg 3 33 []) (.pt C63_4)
def C63_6 : AC := .ret
def C63_7 : AC := .ret
def C63_8 : AC := .cond (.t 13) (.seq (.reg (.o 6 (.mov (.c (.ptr none))) (.o 7 (.mov (.c (.int .i64 2))) .nil)) []) C63_7) .skip
def C63_9 : AC := .cond (.t 9) (.seq (.reg (.o 6 (.mov (.c (.ptr none))) (.o 7 (.mov (.c (.int .i64 5))) .nil)) []) C63_6) (.seq (.reg (.o 14 (.mov (.t 1)) (.o 15 (.bin .lss (.t 14) (.c (.int .i64 0))) (.o 16 (.mov (.t 15)) (.grp 16 false (.o 17 (.mov (.t 1)) (.o 18 (.bin .gtr (.t 17) (.c (.int .i64 256))) .nil)) (.o 19 (.pick (.t 16) (.c (.bool true)) (.t 18)) (.o 20 (.mov (.t 19)) (.grp 20 false (.o 21 (.mov (.t 2)) (.o 22 (.bin .lss (.t 21) (.c (.int .i64 0))) .nil)) (.o 23 (.pick (.t 20) (.c (.bool true)) (.t 22)) (.o 24 (.mov (.t 23)) (.grp 24 false (.o 25 (.mov (.t 2)) (.o 26 (.bin .gtr (.t 25) (.c (.int .i64 256))) .nil)) (.o 27 (.pick (.t 24) (.c (.bool true)) (.t 26)) (.o 13 (.mov (.t 27)) .nil)))))))))))) []) C63_8)
def C63_10 : AC := .seq (.block 0 (.seq (.reg (.o 10 (.mov (.t 0)) (.o 11 (.len (.t 10)) (.o 12 (.bin .gtr (.t 11) (.c (.int .i64 2048))) (.o 9 (.mov (.t 12)) .nil)))) []) C63_9)) C63_5
def C63_11 : AC := .seq (.reg (.o 6 (.mov (.c (.ptr none))) (.o 7 (.mov (.c (.int .i64 0))) .nil)) []) C63_10
def F63 : AFunc := { ntmps := 36, results := [.tmp 6, .tmp 7], body := C63_11 }
def p63_0 (x0_1a : Ad) (x0_1l : Nat) (x0_1c : Cap) (x1_2 : Int) (x2_3 : Int) (M : Mem) : Rs := run false call meth F63.results [.code C63_11] (some (.sl x0_1a x0_1l x0_1c) :: some (.int .i64 x1_2) :: some (.int .i64 x2_3) :: nn 33 []) M
def p63_1 (x0_101a : Ad) (x0_101l : Nat) (x0_101c : Cap) (x1_102 : Int) (x2_103 : Int) (M : Mem) : Rs := run false call meth F63.results [.code C63_4] (some (.sl x0_101a x0_101l x0_101c) :: some (.int .i64 x1_102) :: some (.int .i64 x2_103) :: nn 33 []) M
theorem p63_0_eq (x0_1a : Ad) (x0_1l : Nat) (x0_1c : Cap) (x1_2 : Int) (x2_3 : Int) (M : Mem) : p63_0 call meth x0_1a x0_1l x0_1c x1_2 x2_3 M = (cond (decide (((x0_1l : Nat) : Int) > 2048)) (some (.tup [.ptr none, .int .i64 5], M)) (cond (decide (x1_2 < 0)) (some (.tup [.ptr none, .int .i64 2], M)) (cond (decide (x1_2 > 256)) (some (.tup [.ptr none, .int .i64 2], M)) (cond (decide (x2_3 < 0)) (some (.tup [.ptr none, .int .i64 2], M)) (cond (decide (x2_3 > 256)) (some (.tup [.ptr none, .int .i64 2], M)) (p63_1 call meth x0_1a x0_1l x0_1c x1_2 x2_3 M)))))) :=
  (seg_run false call meth F63.results 100000 [.code C63_11] _ M).symm.trans (by kernel_rfl)
theorem p63_1_eq (x0_101a : Ad) (x0_101l : Nat) (x0_101c : Cap) (x1_102 : Int) (x2_103 : Int) (M : Mem) : p63_1 call meth x0_101a x0_101l x0_101c x1_102 x2_103 M = (let M201 := M.alloc ⟨[.bool true, .sl none 0 (.known 0), .int .i64 0, .int .i64 0, .int .i64 0], .fixed⟩; (Option.bind (call 87 [.ptr (some (M.n, 0)), .sl x0_101a x0_101l x0_101c, .int .i64 x1_102, .int .i64 0, .int .i64 0, .int .i64 x2_103] M201) fun r202 => (Option.bind r202.1.tup? fun l203 => (cond l203.isEmpty (some (.tup [.ptr (some (M.n, 0)), .int .i64 0], r202.2)) none)))) :=
  (seg_run false call meth F63.results 100000 [.code C63_4] _ M).symm.trans (by kernel_rfl)
theorem run63 (x0_1a : Ad) (x0_1l : Nat) (x0_1c : Cap) (x1_2 : Int) (x2_3 : Int) (M : Mem) : run false call meth F63.results [.code F63.body] (frame0 F63 [.sl x0_1a x0_1l x0_1c, .int .i64 x1_2, .int .i64 x2_3]) M = p63_0 call meth x0_1a x0_1l x0_1c x1_2 x2_3 M := by kernel_rfl
theorem ok63 : okFn Try.prog 63 F63 = true := by kernel_rfl
def C64_1 : AC := .ret
def C64_2 : AC := .seq (.reg (.o 14 (.mov (.t 0)) (.o 15 (.nilCk (.t 14)) (.o 16 (.fldA 1 (.t 15)) (.o 17 (.load1 .ptr (.t 16)) (.o 18 (.nilCk (.t 17)) (.o 19 (.fldA 0 (.t 18)) (.o 20 (.load1 .ptr (.t 19)) (.o 21 (.mov (.t 1)) (.o 22 (.mov (.t 2)) (.o 23 (.call 88 [(.t 20), (.t 21), (.t 22)] (.tup [.one (.int .u64), .one (.int .i64)])) (.o 24 (.ext (.t 23) 0) (.o 25 (.ext (.t 23) 1) (.o 6 (.mov (.t 24)) (.o 7 (.mov (.t 25)) .nil)))))))))))))) []) C64_1
def C64_3 : AC := .ret
def C64_4 : AC := .cond (.t 12) (.seq (.reg (.o 13 (.mov (.t 8)) (.o 6 (.mov (.c (.int .u64 0))) (.o 7 (.mov (.t 13)) .nil))) []) C64_3) .skip
def C64_5 : AC := .seq (.reg (.o 11 (.mov (.t 8)) (.o 12 (.bin .neq (.t 11) (.c (.int .i64 0))) .nil)) []) C64_4
def C64_6 : AC := .seq (.seq (.reg (.o 9 (.mov (.t 0)) (.o 10 (.call 44 [(.t 9)] (.r (.one (.int .i64)))) (.o 8 (.mov (.t 10)) .nil))) []) C64_5) C64_2
def C64_7 : AC := .seq (.reg (.o 6 (.mov (.c (.int .u64 0))) (.o 7 (.mov (.c (.int .i64 0))) .nil)) []) C64_6
def F64 : AFunc := { ntmps := 26, results := [.tmp 6, .tmp 7], body := C64_7 }
def p64_0 (x0_1 : Ad) (x1_2 : Int) (x2_3 : Int) (M : Mem) : Rs := run false call meth F64.results [.code C64_7] (some (.ptr x0_1) :: some (.int .i64 x1_2) :: some (.int .i64 x2_3) :: nn 23 []) M
theorem p64_0_eq (x0_1 : Ad) (x1_2 : Int) (x2_3 : Int) (M : Mem) : p64_0 call meth x0_1 x1_2 x2_3 M = (Option.bind (call 44 [.ptr x0_1] M) fun r101 => (Option.bind (r101.1.int? .i64) fun x102 => (cond (x102 != 0) (some (.tup [.int .u64 0, .int .i64 x102], r101.2)) (Option.bind x0_1 fun p103 => (Option.bind (r101.2.ldP p103.1 (p103.2 + 1)) fun x104 => (Option.bind x104 fun p105 => (Option.bind (r101.2.ldP p105.1 (p105.2 + 0)) fun x106 => (Option.bind (call 88 [.ptr x106, .int .i64 x1_2, .int .i64 x2_3] r101.2) fun r107 => (Option.bind r107.1.tup? fun l108 => (Option.bind l108.head? fun v109 => (Option.bind (v109.int? .u64) fun x110 => (Option.bind l108.tail.head? fun v111 => (Option.bind (v111.int? .i64) fun x112 => (cond l108.tail.tail.isEmpty (some (.tup [.int .u64 x110, .int .i64 x112], r107.2)) none)))))))))))))) :=
  (seg_run false call meth F64.results 100000 [.code C64_7] _ M).symm.trans (by kernel_rfl)
theorem run64 (x0_1 : Ad) (x1_2 : Int) (x2_3 : Int) (M : Mem) : run false call meth F64.results [.code F64.body] (frame0 F64 [.ptr x0_1, .int .i64 x1_2, .int .i64 x2_3]) M = p64_0 call meth x0_1 x1_2 x2_3 M := by kernel_rfl
theorem ok64 : okFn Try.prog 64 F64 = true := by kernel_rfl
def C65_1 : AC := .ret
def C65_2 : AC := .seq (.drw (.o 5 (.mov (.t 0)) (.o 6 (.nilCk (.t 5)) (.o 7 (.fldA 1 (.t 6)) (.o 8 (.load1 .sl (.t 7)) (.o 9 (.mov (.t 0)) (.o 10 (.nilCk (.t 9)) (.o 11 (.fldA 2 (.t 10)) (.o 12 (.load1 (.int .i64) (.t 11)) (.o 13 (.mov (.t 0)) (.o 14 (.nilCk (.t 13)) (.o 15 (.fldA 3 (.t 14)) (.o 16 (.load1 (.int .i64) (.t 15)) (.o 17 (.mov (.t 0)) (.o 18 (.nilCk (.t 17)) (.o 19 (.fldA 3 (.t 18)) (.o 20 (.load1 (.int .i64) (.t 19)) (.o 21 (.slc 1 (.t 8) (some (.t 12)) (some (.t 16)) (some (.t 20))) (.o 2 (.mov (.t 21)) .nil)))))))))))))))))) [] []) C65_1
def C65_3 : AC := .ret
def C65_4 : AC := .cond (.t 4) (.seq (.reg (.o 2 (.mov (.c (.sl none 0 (.known 0)))) .nil) []) C65_3) .skip
def C65_5 : AC := .seq (.seq (.reg (.o 3 (.mov (.t 0)) (.o 4 (.call 89 [(.t 3)] (.r (.one .bool))) .nil)) []) C65_4) C65_2
def C65_6 : AC := .seq (.reg (.o 2 (.mov (.c (.sl none 0 (.known 0)))) .nil) []) C65_5
def F65 : AFunc := { ntmps := 22, results := [.tmp 2], body := C65_6 }
def p65_0 (x0_1 : Ad) (M : Mem) : Rs := run false call meth F65.results [.code C65_6] (some (.ptr x0_1) :: nn 21 []) M
theorem p65_0_eq (x0_1 : Ad) (M : Mem) : p65_0 call meth x0_1 M = (Option.bind (call 89 [.ptr x0_1] M) fun r101 => (Option.bind (r101.1.bool?) fun x102 => (cond x102 (some (.sl none 0 (.known 0), r101.2)) (Option.bind x0_1 fun p103 => (Option.bind (r101.2.ldL p103.1 (p103.2 + 1)) fun x104 => (Option.bind x0_1 fun p105 => (Option.bind (r101.2.ldI .i64 p105.1 (p105.2 + 2)) fun x106 => (Option.bind x0_1 fun p107 => (Option.bind (r101.2.ldI .i64 p107.1 (p107.2 + 3)) fun x108 => (Option.bind x0_1 fun p109 => (Option.bind (r101.2.ldI .i64 p109.1 (p109.2 + 3)) fun x110 => (slcK false 1 x104.1 x104.2.1 x104.2.2 r101.2 (some (.int .i64 x106)) (some (.int .i64 x108)) (some (.int .i64 x110)) fun s111a s111l s111c => (some (.sl s111a s111l s111c, r101.2)))))))))))))) :=
  (seg_run false call meth F65.results 100000 [.code C65_6] _ M).symm.trans (by kernel_rfl)
theorem run65 (x0_1 : Ad) (M : Mem) : run false call meth F65.results [.code F65.body] (frame0 F65 [.ptr x0_1]) M = p65_0 call meth x0_1 M := by kernel_rfl
theorem ok65 : okFn Try.prog 65 F65 = true := by kernel_rfl
def C66_1 : AC := .ret
def C66_2 : AC := .seq (.reg (.o 14 (.mov (.t 1)) (.o 15 (.mov (.t 7)) (.o 16 (.bin .leq (.t 14) (.t 15)) (.o 17 (.mov (.t 16)) (.grp 17 true (.o 18 (.mov (.t 2)) (.o 19 (.mov (.t 7)) (.o 20 (.mov (.t 1)) (.o 21 (.bin .sub (.t 19) (.t 20)) (.o 22 (.bin .leq (.t 18) (.t 21)) .nil))))) (.o 23 (.pick (.t 17) (.t 22) (.c (.bool false))) (.o 6 (.mov (.t 23)) .nil))))))) []) C66_1
def C66_3 : AC := .seq (.reg (.o 8 (.mov (.t 0)) (.o 9 (.nilCk (.t 8)) (.o 10 (.fldA 0 (.t 9)) (.o 11 (.load1 .ptr (.t 10)) (.o 12 (.call 90 [(.t 11)] (.r (.one (.int .i64)))) (.o 13 (.convI .u64 (.t 12)) (.o 7 (.mov (.t 13)) .nil))))))) []) C66_2
def C66_4 : AC := .seq (.reg (.o 6 (.mov (.c (.bool false))) .nil) []) C66_3
def F66 : AFunc := { ntmps := 24, results := [.tmp 6], body := C66_4 }
def p66_0 (x0_1 : Ad) (x1_2 : Int) (x2_3 : Int) (M : Mem) : Rs := run false call meth F66.results [.code C66_4] (some (.ptr x0_1) :: some (.int .u64 x1_2) :: some (.int .u64 x2_3) :: nn 21 []) M
theorem p66_0_eq (x0_1 : Ad) (x1_2 : Int) (x2_3 : Int) (M : Mem) : p66_0 call meth x0_1 x1_2 x2_3 M = (Option.bind x0_1 fun p101 => (Option.bind (M.ldP p101.1 (p101.2 + 0)) fun x102 => (Option.bind (call 90 [.ptr x102] M) fun r103 => (Option.bind (r103.1.int? .i64) fun x104 => (cond (decide (x1_2 ≤ (IntKind.wrap .u64 x104))) (some (.bool (decide (x2_3 ≤ (IntKind.wrap .u64 ((IntKind.wrap .u64 x104) - x1_2)))), r103.2)) (some (.bool false, r103.2))))))) :=
  (seg_run false call meth F66.results 100000 [.code C66_4] _ M).symm.trans (by kernel_rfl)
theorem run66 (x0_1 : Ad) (x1_2 : Int) (x2_3 : Int) (M : Mem) : run false call meth F66.results [.code F66.body] (frame0 F66 [.ptr x0_1, .int .u64 x1_2, .int .u64 x2_3]) M = p66_0 call meth x0_1 x1_2 x2_3 M := by kernel_rfl
theorem ok66 : okFn Try.prog 66 F66 = true := by kernel_rfl
def C67_1 : AC := .ret
def C67_2 : AC := .seq (.reg (.o 2 (.mov (.c (.int .u64 0))) .nil) []) C67_1
def C67_3 : AC := .ret
def C67_4 : AC := .cond (.t 4) (.seq (.reg (.o 2 (.mov (.c (.int .u64 1))) .nil) []) C67_3) .skip
def C67_5 : AC := .seq (.seq (.reg (.o 3 (.mov (.t 0)) (.o 4 (.bin .eql (.t 3) (.c (.int .i64 0))) .nil)) []) C67_4) C67_2
def C67_6 : AC := .seq (.reg (.o 2 (.mov (.c (.int .u64 0))) .nil) []) C67_5
def F67 : AFunc := { ntmps := 5, results := [.tmp 2], body := C67_6 }
def p67_0 (x0_1 : Int) (M : Mem) : Rs := run false call meth F67.results [.code C67_6] [some (.int .i64 x0_1), none, none, none, none] M
theorem p67_0_eq (x0_1 : Int) (M : Mem) : p67_0 call meth x0_1 M = (cond (x0_1 == 0) (some (.int .u64 1, M)) (some (.int .u64 0, M))) :=
  (seg_run false call meth F67.results 100000 [.code C67_6] _ M).symm.trans (by kernel_rfl)
theorem run67 (x0_1 : Int) (M : Mem) : run false call meth F67.results [.code F67.body] (frame0 F67 [.int .i64 x0_1]) M = p67_0 call meth x0_1 M := by kernel_rfl
theorem ok67 : okFn Try.prog 67 F67 = true := by kernel_rfl
def C68_1 : AC := .ret
def C68_2 : AC := .seq (.reg (.o 31 (.mov (.t 11)) (.o 32 (.mov (.t 1)) (.o 33 (.mov (.t 2)) (.o 34 (.mov (.t 3)) (.o 35 (.call 92 [(.t 31), (.t 32), (.t 33), (.t 34)] (.r (.one (.int .i64)))) (.o 8 (.mov (.t 35)) .nil)))))) []) C68_1
def C68_3 : AC := .ret
def C68_4 : AC := .cond (.t 29) (.seq (.reg (.o 30 (.mov (.t 12)) (.o 8 (.mov (.t 30)) .nil)) []) C68_3) .skip
def C68_5 : AC := .seq (.seq (.reg (.o 28 (.mov (.t 12)) (.o 29 (.bin .neq (.t 28) (.c (.int .i64 0))) .nil)) []) C68_4) C68_2
def C68_6 : AC := .seq (.reg (.o 24 (.mov (.t 0)) (.o 25 (.call 91 [(.t 24)] (.tup [.one .ptr, .one (.int .i64)])) (.o 23 (.mov (.t 25)) (.o 26 (.ext (.t 23) 0) (.o 27 (.ext (.t 23) 1) (.o 11 (.mov (.t 26)) (.o 12 (.mov (.t 27)) .nil))))))) []) C68_5
def C68_7 : AC := .ret
def C68_8 : AC := .cond (.t 21) (.seq (.reg (.o 22 (.mov (.t 10)) (.o 8 (.mov (.t 22)) .nil)) []) C68_7) .skip
def C68_9 : AC := .seq (.reg (.o 20 (.mov (.t 10)) (.o 21 (.bin .neq (.t 20) (.c (.int .i64 0))) .nil)) []) C68_8
def C68_10 : AC := .seq (.seq (.reg (.o 14 (.mov (.t 0)) (.o 15 (.mov (.t 1)) (.o 16 (.mov (.t 2)) (.o 17 (.call 64 [(.t 14), (.t 15), (.t 16)] (.tup [.one (.int .u64), .one (.int .i64)])) (.o 13 (.mov (.t 17)) (.o 18 (.ext (.t 13) 0) (.o 19 (.ext (.t 13) 1) (.o 9 (.mov (.t 18)) (.o 10 (.mov (.t 19)) .nil))))))))) []) C68_9) C68_6
def C68_11 : AC := .seq (.reg (.o 8 (.mov (.c (.int .i64 0))) .nil) []) C68_10
def F68 : AFunc := { ntmps := 36, results := [.tmp 8], body := C68_11 }
def p68_0 (x0_1 : Ad) (x1_2 : Int) (x2_3 : Int) (x3_4 : Int) (M : Mem) : Rs := run false call meth F68.results [.code C68_11] (some (.ptr x0_1) :: some (.int .i64 x1_2) :: some (.int .i64 x2_3) :: some (.int .u64 x3_4) :: nn 32 []) M
theorem p68_0_eq (x0_1 : Ad) (x1_2 : Int) (x2_3 : Int) (x3_4 : Int) (M : Mem) : p68_0 call meth x0_1 x1_2 x2_3 x3_4 M = (Option.bind (call 64 [.ptr x0_1, .int .i64 x1_2, .int .i64 x2_3] M) fun r101 => (Option.bind r101.1.tup? fun l102 => (Option.bind l102.head? fun v103 => (Option.bind (v103.int? .u64) fun x104 => (Option.bind l102.tail.head? fun v105 => (Option.bind (v105.int? .i64) fun x106 => (cond l102.tail.tail.isEmpty (cond (x106 != 0) (some (.int .i64 x106, r101.2)) (Option.bind (call 91 [.ptr x0_1] r101.2) fun r107 => (Option.bind r107.1.tup? fun l108 => (Option.bind l108.head? fun v109 => (Option.bind (v109.ptr?) fun x110 => (Option.bind l108.tail.head? fun v111 => (Option.bind (v111.int? .i64) fun x112 => (cond l108.tail.tail.isEmpty (cond (x112 != 0) (some (.int .i64 x112, r107.2)) (Option.bind (call 92 [.ptr x110, .int .i64 x1_2, .int .i64 x2_3, .int .u64 x3_4] r107.2) fun r113 => (Option.bind (r113.1.int? .i64) fun x114 => (some (.int .i64 x114, r113.2))))) none)))))))) none))))))) :=
  (seg_run false call meth F68.results 100000 [.code C68_11] _ M).symm.trans (by kernel_rfl)
theorem run68 (x0_1 : Ad) (x1_2 : Int) (x2_3 : Int) (x3_4 : Int) (M : Mem) : run false call meth F68.results [.code F68.body] (frame0 F68 [.ptr x0_1, .int .i64 x1_2, .int .i64 x2_3, .int .u64 x3_4]) M = p68_0 call meth x0_1 x1_2 x2_3 x3_4 M := by kernel_rfl
theorem ok68 : okFn Try.prog 68 F68 = true := by kernel_rfl
def C70_1 : AC := .ret
def C70_2 : AC := .seq (.drw (.o 73 (.mov (.t 0)) (.o 74 (.nilCk (.t 73)) (.o 75 (.fldA 0 (.t 74)) (.o 76 (.load1 .ptr (.t 75)) (.o 77 (.mov (.t 1)) (.o 78 (.convI .i64 (.t 77)) (.o 79 (.mov (.t 9)) (.o 80 (.convI .u16 (.t 79)) (.o 81 (.mov (.t 11)) (.o 82 (.convI .u16 (.t 81)) (.o 83 (.mov (.t 3)) (.o 84 (.callP 95 [(.t 80), (.t 82), (.t 83)] (.r (.one (.int .u16)))) (.o 85 (.convI .u64 (.t 84)) (.o 86 (.call 68 [(.t 76), (.t 78), (.c (.int .i64 2)), (.t 85)] (.r (.one (.int .i64)))) (.o 87 (.callP 67 [(.t 86)] (.r (.one (.int .u64)))) (.o 8 (.mov (.t 87)) .nil)))))))))))))))) [] []) C70_1
def C70_3 : AC := .ret
def C70_4 : AC := .cond (.t 72) (.seq (.reg (.o 8 (.mov (.c (.int .u64 0))) .nil) []) C70_3) .skip
def C70_5 : AC := .seq (.reg (.o 71 (.mov (.t 13)) (.o 72 (.bin .neq (.t 71) (.c (.int .i64 0))) .nil)) []) C70_4
def C70_6 : AC := .seq (.seq (.reg (.o 62 (.mov (.t 0)) (.o 63 (.nilCk (.t 62)) (.o 64 (.fldA 0 (.t 63)) (.o 65 (.load1 .ptr (.t 64)) (.o 66 (.mov (.t 2)) (.o 67 (.convI .i64 (.t 66)) (.o 68 (.mov (.t 3)) (.o 69 (.convI .u64 (.t 68)) (.o 70 (.call 68 [(.t 65), (.t 67), (.c (.int .i64 2)), (.t 69)] (.r (.one (.int .i64)))) (.o 13 (.mov (.t 70)) .nil)))))))))) []) C70_5) C70_2
def C70_7 : AC := .kil (rg 4 5 (10 :: rg 12 76 [])) (.pt C70_6)
def C70_8 : AC := .ret
def C70_9 : AC := .cond (.t 61) (.seq (.reg (.o 8 (.mov (.c (.int .u64 0))) .nil) []) C70_8) .skip
def C70_10 : AC := .seq (.seq (.reg (.o 56 (.mov (.t 10)) (.o 57 (.bin .neq (.t 56) (.c (.int .i64 0))) (.o 58 (.mov (.t 57)) (.grp 58 false (.o 59 (.mov (.t 12)) (.o 60 (.bin .neq (.t 59) (.c (.int .i64 0))) .nil)) (.o 61 (.pick (.t 58) (.c (.bool true)) (.t 60)) .nil))))) []) C70_9) C70_7
def C70_11 : AC := .seq (.reg (.o 47 (.mov (.t 0)) (.o 48 (.nilCk (.t 47)) (.o 49 (.fldA 0 (.t 48)) (.o 50 (.load1 .ptr (.t 49)) (.o 51 (.mov (.t 2)) (.o 52 (.convI .i64 (.t 51)) (.o 53 (.call 64 [(.t 50), (.t 52), (.c (.int .i64 2))] (.tup [.one (.int .u64), .one (.int .i64)])) (.o 46 (.mov (.t 53)) (.o 54 (.ext (.t 46) 0) (.o 55 (.ext (.t 46) 1) (.o 11 (.mov (.t 54)) (.o 12 (.mov (.t 55)) .nil)))))))))))) []) C70_10
def C70_12 : AC := .seq (.reg (.o 37 (.mov (.t 0)) (.o 38 (.nilCk (.t 37)) (.o 39 (.fldA 0 (.t 38)) (.o 40 (.load1 .ptr (.t 39)) (.o 41 (.mov (.t 1)) (.o 42 (.convI .i64 (.t 41)) (.o 43 (.call 64 [(.t 40), (.t 42), (.c (.int .i64 2))] (.tup [.one (.int .u64), .one (.int .i64)])) (.o 36 (.mov (.t 43)) (.o 44 (.ext (.t 36) 0) (.o 45 (.ext (.t 36) 1) (.o 9 (.mov (.t 44)) (.o 10 (.mov (.t 45)) .nil)))))))))))) []) C70_11
def C70_13 : AC := .kil (rg 4 84 []) (.pt C70_12)
def C70_14 : AC := .ret
def C70_15 : AC := .cond (.t 35) (.seq (.reg (.o 8 (.mov (.c (.int .u64 0))) .nil) []) C70_14) .skip
def C70_16 : AC := .seq (.seq (.reg (.o 14 (.mov (.t 0)) (.o 15 (.mov (.t 1)) (.o 16 (.call 66 [(.t 14), (.t 15), (.c (.int .u64 2))] (.r (.one .bool))) (.o 17 (.not (.t 16)) (.o 18 (.mov (.t 17)) (.grp 18 false (.o 19 (.mov (.t 0)) (.o 20 (.mov (.t 2)) (.o 21 (.call 66 [(.t 19), (.t 20), (.c (.int .u64 2))] (.r (.one .bool))) (.o 22 (.not (.t 21)) .nil)))) (.o 23 (.pick (.t 18) (.c (.bool true)) (.t 22)) (.o 24 (.mov (.t 23)) (.grp 24 false (.o 25 (.mov (.t 1)) (.o 26 (.mov (.t 2)) (.o 27 (.bin .eql (.t 25) (.t 26)) .nil))) (.o 28 (.pick (.t 24) (.c (.bool true)) (.t 27)) (.o 29 (.mov (.t 28)) (.grp 29 false (.o 30 (.mov (.t 1)) (.o 31 (.mov (.t 2)) (.o 32 (.bin .xor (.t 30) (.t 31)) (.o 33 (.bin .and (.t 32) (.c (.int .u64 1))) (.o 34 (.bin .neq (.t 33) (.c (.int .u64 0))) .nil))))) (.o 35 (.pick (.t 29) (.c (.bool true)) (.t 34)) .nil))))))))))))) []) C70_15) C70_13
def C70_17 : AC := .seq (.reg (.o 8 (.mov (.c (.int .u64 0))) .nil) []) C70_16
def F70 : AFunc := { ntmps := 88, results := [.tmp 8], body := C70_17 }
def p70_0 (x0_1 : Ad) (x1_2 : Int) (x2_3 : Int) (x3_4 : Int) (M : Mem) : Rs := run false call meth F70.results [.code C70_17] (some (.ptr x0_1) :: some (.int .u64 x1_2) :: some (.int .u64 x2_3) :: some (.int .u16 x3_4) :: nn 84 []) M
def p70_1 (x0_105 : Ad) (x1_106 : Int) (x2_107 : Int) (x3_108 : Int) (M : Mem) : Rs := run false call meth F70.results [.code C70_12] (some (.ptr x0_105) :: some (.int .u64 x1_106) :: some (.int .u64 x2_107) :: some (.int .u16 x3_108) :: nn 84 []) M
def p70_2 (x0_217 : Ad) (x1_218 : Int) (x2_219 : Int) (x3_220 : Int) (x9_221 : Int) (x11_222 : Int) (M : Mem) : Rs := run false call meth F70.results [.code C70_6] (some (.ptr x0_217) :: some (.int .u64 x1_218) :: some (.int .u64 x2_219) :: some (.int .u16 x3_220) :: nn 5 (some (.int .u64 x9_221) :: none :: some (.int .u64 x11_222) :: nn 76 [])) M
theorem p70_0_eq (x0_1 : Ad) (x1_2 : Int) (x2_3 : Int) (x3_4 : Int) (M : Mem) : p70_0 call meth x0_1 x1_2 x2_3 x3_4 M = (Option.bind (call 66 [.ptr x0_1, .int .u64 x1_2, .int .u64 2] M) fun r101 => (Option.bind (r101.1.bool?) fun x102 => (cond (!x102) (some (.int .u64 0, r101.2)) (Option.bind (call 66 [.ptr x0_1, .int .u64 x2_3, .int .u64 2] r101.2) fun r103 => (Option.bind (r103.1.bool?) fun x104 => (cond (!x104) (some (.int .u64 0, r103.2)) (cond (x1_2 == x2_3) (some (.int .u64 0, r103.2)) (cond ((IntKind.wrap .u64 ((BitVec.ofInt (IntKind.bits .u64) (IntKind.wrap .u64 ((BitVec.ofInt (IntKind.bits .u64) x1_2 ^^^ BitVec.ofInt (IntKind.bits .u64) x2_3).toNat)) &&& BitVec.ofInt (IntKind.bits .u64) 1).toNat)) != 0) (some (.int .u64 0, r103.2)) (p70_1 call meth x0_1 x1_2 x2_3 x3_4 r103.2))))))))) :=
  (seg_run false call meth F70.results 100000 [.code C70_17] _ M).symm.trans (by kernel_rfl)
theorem p70_1_eq (x0_105 : Ad) (x1_106 : Int) (x2_107 : Int) (x3_108 : Int) (M : Mem) : p70_1 call meth x0_105 x1_106 x2_107 x3_108 M = (Option.bind x0_105 fun p201 => (Option.bind (M.ldP p201.1 (p201.2 + 0)) fun x202 => (Option.bind (call 64 [.ptr x202, .int .i64 (IntKind.wrap .i64 x1_106), .int .i64 2] M) fun r203 => (Option.bind r203.1.tup? fun l204 => (Option.bind l204.head? fun v205 => (Option.bind (v205.int? .u64) fun x206 => (Option.bind l204.tail.head? fun v207 => (Option.bind (v207.int? .i64) fun x208 => (cond l204.tail.tail.isEmpty (Option.bind x0_105 fun p209 => (Option.bind (r203.2.ldP p209.1 (p209.2 + 0)) fun x210 => (Option.bind (call 64 [.ptr x210, .int .i64 (IntKind.wrap .i64 x2_107), .int .i64 2] r203.2) fun r211 => (Option.bind r211.1.tup? fun l212 => (Option.bind l212.head? fun v213 => (Option.bind (v213.int? .u64) fun x214 => (Option.bind l212.tail.head? fun v215 => (Option.bind (v215.int? .i64) fun x216 => (cond l212.tail.tail.isEmpty (cond (x208 != 0) (some (.int .u64 0, r211.2)) (cond (x216 != 0) (some (.int .u64 0, r211.2)) (p70_2 call meth x0_105 x1_106 x2_107 x3_108 x206 x214 r211.2))) none))))))))) none))))))))) :=
  (seg_run false call meth F70.results 100000 [.code C70_12] _ M).symm.trans (by kernel_rfl)
theorem p70_2_eq (x0_217 : Ad) (x1_218 : Int) (x2_219 : Int) (x3_220 : Int) (x9_221 : Int) (x11_222 : Int) (M : Mem) : p70_2 call meth x0_217 x1_218 x2_219 x3_220 x9_221 x11_222 M = (Option.bind x0_217 fun p301 => (Option.bind (M.ldP p301.1 (p301.2 + 0)) fun x302 => (Option.bind (call 68 [.ptr x302, .int .i64 (IntKind.wrap .i64 x2_219), .int .i64 2, .int .u64 (IntKind.wrap .u64 x3_220)] M) fun r303 => (Option.bind (r303.1.int? .i64) fun x304 => (cond (x304 != 0) (some (.int .u64 0, r303.2)) (Option.bind x0_217 fun p305 => (Option.bind (r303.2.ldP p305.1 (p305.2 + 0)) fun x306 => (Option.bind (call 95 [.int .u16 (IntKind.wrap .u16 x9_221), .int .u16 (IntKind.wrap .u16 x11_222), .int .u16 x3_220] Mem.empty) fun r307 => (Option.bind (r307.1.int? .u16) fun x308 => (Option.bind (call 68 [.ptr x306, .int .i64 (IntKind.wrap .i64 x1_218), .int .i64 2, .int .u64 (IntKind.wrap .u64 x308)] r303.2) fun r309 => (Option.bind (r309.1.int? .i64) fun x310 => (Option.bind (call 67 [.int .i64 x310] Mem.empty) fun r311 => (Option.bind (r311.1.int? .u64) fun x312 => (some (.int .u64 x312, r309.2))))))))))))))) :=
  (seg_run false call meth F70.results 100000 [.code C70_6] _ M).symm.trans (by kernel_rfl)
theorem run70 (x0_1 : Ad) (x1_2 : Int) (x2_3 : Int) (x3_4 : Int) (M : Mem) : run false call meth F70.results [.code F70.body] (frame0 F70 [.ptr x0_1, .int .u64 x1_2, .int .u64 x2_3, .int .u16 x3_4]) M = p70_0 call meth x0_1 x1_2 x2_3 x3_4 M := by kernel_rfl
theorem ok70 : okFn Try.prog 70 F70 = true := by kernel_rfl
def C87_1 : AC := .reg (.o 31 (.mov (.t 0)) (.o 32 (.mov (.t 0)) (.o 33 (.mov (.t 0)) (.o 34 (.mov (.t 12)) (.o 35 (.mov (.t 2)) (.o 36 (.mov (.t 12)) (.o 37 (.len (.t 36)) (.o 38 (.mov (.t 5)) (.o 39 (.bin .sub (.t 37) (.t 38)) (.o 40 (.nilCk (.t 31)) (.o 41 (.fldA 1 (.t 40)) (.op none (.store 1 (.t 41) (.t 34)) (.o 42 (.nilCk (.t 32)) (.o 43 (.fldA 2 (.t 42)) (.op none (.store 1 (.t 43) (.t 35)) (.o 44 (.nilCk (.t 33)) (.o 45 (.fldA 3 (.t 44)) (.op none (.store 1 (.t 45) (.t 39)) .nil)))))))))))))))))) []
def C87_2 : AC := .seq (.reg (.o 24 (.mov (.t 12)) (.o 25 (.mov (.t 2)) (.o 26 (.mov (.t 3)) (.o 27 (.bin .add (.t 25) (.t 26)) (.o 28 (.slc 1 (.t 24) (some (.t 27)) none none) (.o 29 (.mov (.t 1)) (.o 30 (.copy 1 (.t 28) (.t 29)) .nil))))))) []) C87_1
def C87_3 : AC := .seq (.reg (.o 13 (.mov (.t 2)) (.o 14 (.mov (.t 3)) (.o 15 (.bin .add (.t 13) (.t 14)) (.o 16 (.mov (.t 1)) (.o 17 (.len (.t 16)) (.o 18 (.bin .add (.t 15) (.t 17)) (.o 19 (.mov (.t 4)) (.o 20 (.bin .add (.t 18) (.t 19)) (.o 21 (.mov (.t 5)) (.o 22 (.bin .add (.t 20) (.t 21)) (.o 23 (.mkSl [.int .u8 0] 1 (.t 22) (.t 22)) (.o 12 (.mov (.t 23)) .nil)))))))))))) []) C87_2
def F87 : AFunc := { ntmps := 46, results := [], body := C87_3 }
def p87_0 (x0_1 : Ad) (x1_2a : Ad) (x1_2l : Nat) (x1_2c : Cap) (x2_3 : Int) (x3_4 : Int) (x4_5 : Int) (x5_6 : Int) (M : Mem) : Rs := run false call meth F87.results [.code C87_3] (some (.ptr x0_1) :: some (.sl x1_2a x1_2l x1_2c) :: some (.int .i64 x2_3) :: some (.int .i64 x3_4) :: some (.int .i64 x4_5) :: some (.int .i64 x5_6) :: nn 40 []) M
theorem p87_0_eq (x0_1 : Ad) (x1_2a : Ad) (x1_2l : Nat) (x1_2c : Cap) (x2_3 : Int) (x3_4 : Int) (x4_5 : Int) (x5_6 : Int) (M : Mem) : p87_0 call meth x0_1 x1_2a x1_2l x1_2c x2_3 x3_4 x4_5 x5_6 M = (cond (decide (0 ≤ (IntKind.wrap .i64 ((IntKind.wrap .i64 ((IntKind.wrap .i64 ((IntKind.wrap .i64 (x2_3 + x3_4)) + ((x1_2l : Nat) : Int))) + x4_5)) + x5_6)))) (cond (decide (0 ≤ (IntKind.wrap .i64 ((IntKind.wrap .i64 ((IntKind.wrap .i64 ((IntKind.wrap .i64 (x2_3 + x3_4)) + ((x1_2l : Nat) : Int))) + x4_5)) + x5_6)))) (cond (Nat.ble ((IntKind.wrap .i64 ((IntKind.wrap .i64 ((IntKind.wrap .i64 ((IntKind.wrap .i64 (x2_3 + x3_4)) + ((x1_2l : Nat) : Int))) + x4_5)) + x5_6)).toNat) ((IntKind.wrap .i64 ((IntKind.wrap .i64 ((IntKind.wrap .i64 ((IntKind.wrap .i64 (x2_3 + x3_4)) + ((x1_2l : Nat) : Int))) + x4_5)) + x5_6)).toNat) && Nat.ble (1 * ((IntKind.wrap .i64 ((IntKind.wrap .i64 ((IntKind.wrap .i64 ((IntKind.wrap .i64 (x2_3 + x3_4)) + ((x1_2l : Nat) : Int))) + x4_5)) + x5_6)).toNat)) (2 ^ 47)) (let M101 := M.alloc ⟨replZ [.int .u8 0] ((IntKind.wrap .i64 ((IntKind.wrap .i64 ((IntKind.wrap .i64 ((IntKind.wrap .i64 (x2_3 + x3_4)) + ((x1_2l : Nat) : Int))) + x4_5)) + x5_6)).toNat), .fixed⟩; (slcK false 1 (some (M.n, 0)) ((IntKind.wrap .i64 ((IntKind.wrap .i64 ((IntKind.wrap .i64 ((IntKind.wrap .i64 (x2_3 + x3_4)) + ((x1_2l : Nat) : Int))) + x4_5)) + x5_6)).toNat) (.known ((IntKind.wrap .i64 ((IntKind.wrap .i64 ((IntKind.wrap .i64 ((IntKind.wrap .i64 (x2_3 + x3_4)) + ((x1_2l : Nat) : Int))) + x4_5)) + x5_6)).toNat)) M101 (some (.int .i64 (IntKind.wrap .i64 (x2_3 + x3_4)))) none none fun s102a s102l s102c => (copyK false 1 M101 s102a s102l s102c (.sl x1_2a x1_2l x1_2c) fun n103 M104 => (Option.bind x0_1 fun p105 => (Option.bind (M104.st p105.1 (p105.2 + 1) [.sl (some (M.n, 0)) ((IntKind.wrap .i64 ((IntKind.wrap .i64 ((IntKind.wrap .i64 ((IntKind.wrap .i64 (x2_3 + x3_4)) + ((x1_2l : Nat) : Int))) + x4_5)) + x5_6)).toNat) (.known ((IntKind.wrap .i64 ((IntKind.wrap .i64 ((IntKind.wrap .i64 ((IntKind.wrap .i64 (x2_3 + x3_4)) + ((x1_2l : Nat) : Int))) + x4_5)) + x5_6)).toNat))]) fun M106 => (Option.bind x0_1 fun p107 => (Option.bind (M106.st p107.1 (p107.2 + 2) [.int .i64 x2_3]) fun M108 => (Option.bind x0_1 fun p109 => (Option.bind (M108.st p109.1 (p109.2 + 3) [.int .i64 (IntKind.wrap .i64 ((((IntKind.wrap .i64 ((IntKind.wrap .i64 ((IntKind.wrap .i64 ((IntKind.wrap .i64 (x2_3 + x3_4)) + ((x1_2l : Nat) : Int))) + x4_5)) + x5_6)).toNat : Nat) : Int) - x5_6))]) fun M110 => (some (.tup [], M110))))))))))) none) none) none) :=
  (seg_run false call meth F87.results 100000 [.code C87_3] _ M).symm.trans (by kernel_rfl)
theorem run87 (x0_1 : Ad) (x1_2a : Ad) (x1_2l : Nat) (x1_2c : Cap) (x2_3 : Int) (x3_4 : Int) (x4_5 : Int) (x5_6 : Int) (M : Mem) : run false call meth F87.results [.code F87.body] (frame0 F87 [.ptr x0_1, .sl x1_2a x1_2l x1_2c, .int .i64 x2_3, .int .i64 x3_4, .int .i64 x4_5, .int .i64 x5_6]) M = p87_0 call meth x0_1 x1_2a x1_2l x1_2c x2_3 x3_4 x4_5 x5_6 M := by kernel_rfl
theorem ok87 : okFn Try.prog 87 F87 = true := by kernel_rfl
def C88_1 : AC := .ret
def C88_2 : AC := .seq (.reg (.o 37 (.mov (.t 9)) (.o 6 (.mov (.t 37)) (.o 7 (.mov (.c (.int .i64 0))) .nil))) []) C88_1
def C88_3 : AC := .reg (.o 36 (.bin .add (.t 27) (.c (.int .i64 1))) (.o 27 (.mov (.t 36)) .nil)) []
def C88_4 : AC := .reg (.o 31 (.mov (.t 9)) (.o 32 (.shift .shl (.t 31) (.c (.int .u64 8))) (.o 33 (.mov (.t 11)) (.o 34 (.convI .u64 (.t 33)) (.o 35 (.bin .or (.t 32) (.t 34)) (.o 9 (.mov (.t 35)) .nil)))))) []
def C88_5 : AC := .seq (.block 1 (.seq (.reg (.o 29 (.ixS 1 (.t 25) (.t 27)) (.o 30 (.load1 (.int .u8) (.t 29)) (.o 11 (.mov (.t 30)) .nil))) []) C88_4)) C88_3
def C88_6 : AC := .seq (.cond (.t 28) .skip (.exit 0)) C88_5
def C88_7 : AC := .seq (.reg (.o 28 (.bin .lss (.t 27) (.t 26)) .nil) []) C88_6
def C88_8 : AC := .kil (rg 0 9 (rg 10 15 (rg 28 10 []))) (.pt C88_7)
def C88_9 : AC := .block 0 (.loop C88_8)
def C88_10 : AC := .seq (.seq (.reg (.o 19 (.mov (.t 0)) (.o 20 (.call 65 [(.t 19)] (.r (.one .sl))) (.o 21 (.mov (.t 1)) (.o 22 (.mov (.t 1)) (.o 23 (.mov (.t 2)) (.o 24 (.bin .add (.t 22) (.t 23)) (.o 25 (.slc 1 (.t 20) (some (.t 21)) (some (.t 24)) none) (.o 26 (.len (.t 25)) (.o 27 (.mov (.c (.int .i64 0))) .nil))))))))) []) C88_9) C88_2
def C88_11 : AC := .seq (.reg (.o 9 (.mov (.c (.int .u64 0))) .nil) []) C88_10
def C88_12 : AC := .ret
def C88_13 : AC := .cond (.t 17) (.seq (.reg (.o 18 (.mov (.t 8)) (.o 6 (.mov (.c (.int .u64 0))) (.o 7 (.mov (.t 18)) .nil))) []) C88_12) .skip
def C88_14 : AC := .seq (.reg (.o 16 (.mov (.t 8)) (.o 17 (.bin .neq (.t 16) (.c (.int .i64 0))) .nil)) []) C88_13
def C88_15 : AC := .seq (.seq (.reg (.o 12 (.mov (.t 0)) (.o 13 (.mov (.t 1)) (.o 14 (.mov (.t 2)) (.o 15 (.call 103 [(.t 12), (.t 13), (.t 14)] (.r (.one (.int .i64)))) (.o 8 (.mov (.t 15)) .nil))))) []) C88_14) C88_11
def C88_16 : AC := .seq (.reg (.o 6 (.mov (.c (.int .u64 0))) (.o 7 (.mov (.c (.int .i64 0))) .nil)) []) C88_15
def F88 : AFunc := { ntmps := 38, results := [.tmp 6, .tmp 7], body := C88_16 }
def p88_0 (x0_1 : Ad) (x1_2 : Int) (x2_3 : Int) (M : Mem) : Rs := run false call meth F88.results [.code C88_16] (some (.ptr x0_1) :: some (.int .i64 x1_2) :: some (.int .i64 x2_3) :: nn 35 []) M
def p88_1 (x9_106 : Int) (x25_107a : Ad) (x25_107l : Nat) (x25_107c : Cap) (x26_108 : Int) (x27_109 : Int) (M : Mem) : Rs := run false call meth F88.results [.code C88_7, .inLoop C88_8, .inBlock 0, .code C88_2] (nn 9 (some (.int .u64 x9_106) :: nn 15 (some (.sl x25_107a x25_107l x25_107c) :: some (.int .i64 x26_108) :: some (.int .i64 x27_109) :: nn 10 []))) M
theorem p88_0_eq (x0_1 : Ad) (x1_2 : Int) (x2_3 : Int) (M : Mem) : p88_0 call meth x0_1 x1_2 x2_3 M = (Option.bind (call 103 [.ptr x0_1, .int .i64 x1_2, .int .i64 x2_3] M) fun r101 => (Option.bind (r101.1.int? .i64) fun x102 => (cond (x102 != 0) (some (.tup [.int .u64 0, .int .i64 x102], r101.2)) (Option.bind (call 65 [.ptr x0_1] r101.2) fun r103 => (Option.bind (r103.1.sl?) fun x104 => (slcK false 1 x104.1 x104.2.1 x104.2.2 r103.2 (some (.int .i64 x1_2)) (some (.int .i64 (IntKind.wrap .i64 (x1_2 + x2_3)))) none fun s105a s105l s105c => (p88_1 call meth 0 s105a s105l s105c ((s105l : Nat) : Int) 0 r103.2))))))) :=
  (seg_run false call meth F88.results 100000 [.code C88_16] _ M).symm.trans (by kernel_rfl)
theorem p88_1_eq (x9_106 : Int) (x25_107a : Ad) (x25_107l : Nat) (x25_107c : Cap) (x26_108 : Int) (x27_109 : Int) (M : Mem) : p88_1 call meth x9_106 x25_107a x25_107l x25_107c x26_108 x27_109 M = (cond (decide (x27_109 < x26_108)) (cond (decide (0 ≤ x27_109)) (cond (Nat.blt x27_109.toNat x25_107l) (Option.bind (slPtr x25_107a x25_107c) fun p201 => (Option.bind (M.ldI .u8 p201.1 (p201.2 + x27_109.toNat * 1)) fun x202 => (p88_1 call meth (IntKind.wrap .u64 ((BitVec.ofInt (IntKind.bits .u64) (IntKind.wrap .u64 (x9_106 * 2 ^ Nat.min 8 (IntKind.bits .u64))) ||| BitVec.ofInt (IntKind.bits .u64) (IntKind.wrap .u64 x202)).toNat)) x25_107a x25_107l x25_107c x26_108 (IntKind.wrap .i64 (x27_109 + 1)) M))) none) none) (some (.tup [.int .u64 x9_106, .int .i64 0], M))) :=
  (seg_run false call meth F88.results 100000 [.code C88_7, .inLoop C88_8, .inBlock 0, .code C88_2] _ M).symm.trans (by kernel_rfl)
theorem run88 (x0_1 : Ad) (x1_2 : Int) (x2_3 : Int) (M : Mem) : run false call meth F88.results [.code F88.body] (frame0 F88 [.ptr x0_1, .int .i64 x1_2, .int .i64 x2_3]) M = p88_0 call meth x0_1 x1_2 x2_3 M := by kernel_rfl
theorem ok88 : okFn Try.prog 88 F88 = true := by kernel_rfl
def C89_1 : AC := .ret
def C89_2 : AC := .seq (.reg (.o 3 (.mov (.t 0)) (.o 4 (.eq false .ptr (.t 3) (.c (.ptr none))) (.o 5 (.mov (.t 4)) (.grp 5 false (.o 6 (.mov (.t 0)) (.o 7 (.nilCk (.t 6)) (.o 8 (.fldA 0 (.t 7)) (.o 9 (.load1 .bool (.t 8)) (.o 10 (.not (.t 9)) .nil))))) (.o 11 (.pick (.t 5) (.c (.bool true)) (.t 10)) (.o 2 (.mov (.t 11)) .nil)))))) []) C89_1
def C89_3 : AC := .seq (.reg (.o 2 (.mov (.c (.bool false))) .nil) []) C89_2
def F89 : AFunc := { ntmps := 12, results := [.tmp 2], body := C89_3 }
def p89_0 (x0_1 : Ad) (M : Mem) : Rs := run false call meth F89.results [.code C89_3] (some (.ptr x0_1) :: nn 11 []) M
theorem p89_0_eq (x0_1 : Ad) (M : Mem) : p89_0 call meth x0_1 M = (cond x0_1.isNone (some (.bool true, M)) (Option.bind x0_1 fun p101 => (Option.bind (M.ldB p101.1 (p101.2 + 0)) fun x102 => (some (.bool (!x102), M))))) :=
  (seg_run false call meth F89.results 100000 [.code C89_3] _ M).symm.trans (by kernel_rfl)
theorem run89 (x0_1 : Ad) (M : Mem) : run false call meth F89.results [.code F89.body] (frame0 F89 [.ptr x0_1]) M = p89_0 call meth x0_1 M := by kernel_rfl
theorem ok89 : okFn Try.prog 89 F89 = true := by kernel_rfl
def C90_1 : AC := .ret
def C90_2 : AC := .seq (.reg (.o 6 (.mov (.t 0)) (.o 7 (.nilCk (.t 6)) (.o 8 (.fldA 1 (.t 7)) (.o 9 (.load1 .ptr (.t 8)) (.o 10 (.nilCk (.t 9)) (.o 11 (.fldA 0 (.t 10)) (.o 12 (.load1 .ptr (.t 11)) (.o 13 (.call 104 [(.t 12)] (.r (.one (.int .i64)))) (.o 2 (.mov (.t 13)) .nil))))))))) []) C90_1
def C90_3 : AC := .ret
def C90_4 : AC := .cond (.t 5) (.seq (.reg (.o 2 (.mov (.c (.int .i64 0))) .nil) []) C90_3) .skip
def C90_5 : AC := .seq (.seq (.reg (.o 3 (.mov (.t 0)) (.o 4 (.call 44 [(.t 3)] (.r (.one (.int .i64)))) (.o 5 (.bin .neq (.t 4) (.c (.int .i64 0))) .nil))) []) C90_4) C90_2
def C90_6 : AC := .seq (.reg (.o 2 (.mov (.c (.int .i64 0))) .nil) []) C90_5
def F90 : AFunc := { ntmps := 14, results := [.tmp 2], body := C90_6 }
def p90_0 (x0_1 : Ad) (M : Mem) : Rs := run false call meth F90.results [.code C90_6] (some (.ptr x0_1) :: nn 13 []) M
theorem p90_0_eq (x0_1 : Ad) (M : Mem) : p90_0 call meth x0_1 M = (Option.bind (call 44 [.ptr x0_1] M) fun r101 => (Option.bind (r101.1.int? .i64) fun x102 => (cond (x102 != 0) (some (.int .i64 0, r101.2)) (Option.bind x0_1 fun p103 => (Option.bind (r101.2.ldP p103.1 (p103.2 + 1)) fun x104 => (Option.bind x104 fun p105 => (Option.bind (r101.2.ldP p105.1 (p105.2 + 0)) fun x106 => (Option.bind (call 104 [.ptr x106] r101.2) fun r107 => (Option.bind (r107.1.int? .i64) fun x108 => (some (.int .i64 x108, r107.2))))))))))) :=
  (seg_run false call meth F90.results 100000 [.code C90_6] _ M).symm.trans (by kernel_rfl)
theorem run90 (x0_1 : Ad) (M : Mem) : run false call meth F90.results [.code F90.body] (frame0 F90 [.ptr x0_1]) M = p90_0 call meth x0_1 M := by kernel_rfl
theorem ok90 : okFn Try.prog 90 F90 = true := by kernel_rfl
def C91_1 : AC := .ret
def C91_2 : AC := .seq (.reg (.o 49 (.mov (.t 0)) (.o 50 (.nilCk (.t 49)) (.o 51 (.fldA 1 (.t 50)) (.o 52 (.load1 .ptr (.t 51)) (.o 53 (.nilCk (.t 52)) (.o 54 (.fldA 0 (.t 53)) (.o 55 (.load1 .ptr (.t 54)) (.o 2 (.mov (.t 55)) (.o 3 (.mov (.c (.int .i64 0))) .nil))))))))) []) C91_1
def C91_3 : AC := .kil (rg 1 55 []) (.pt C91_2)
def C91_4 : AC := .reg (.o 45 (.mov (.t 0)) (.o 46 (.mov (.t 5)) (.o 47 (.nilCk (.t 45)) (.o 48 (.fldA 1 (.t 47)) (.op none (.store 1 (.t 48) (.t 46)) .nil))))) []
def C91_5 : AC := .seq (.reg (.o 35 (.mov (.t 0)) (.o 36 (.nilCk (.t 35)) (.o 37 (.fldA 1 (.t 36)) (.o 38 (.load1 .ptr (.t 37)) (.o 39 (.nilCk (.t 38)) (.o 40 (.fldA 1 (.t 39)) (.o 41 (.load1 (.int .i64) (.t 40)) (.o 42 (.bin .sub (.t 41) (.c (.int .i64 1))) (.o 43 (.nilCk (.t 38)) (.o 44 (.fldA 1 (.t 43)) (.op none (.store 1 (.t 44) (.t 42)) .nil))))))))))) []) C91_4
def C91_6 : AC := .ret
def C91_7 : AC := .cond (.t 33) (.seq (.reg (.o 34 (.mov (.t 6)) (.o 2 (.mov (.c (.ptr none))) (.o 3 (.mov (.t 34)) .nil))) []) C91_6) .skip
def C91_8 : AC := .seq (.seq (.reg (.o 32 (.mov (.t 6)) (.o 33 (.bin .neq (.t 32) (.c (.int .i64 0))) .nil)) []) C91_7) C91_5
def C91_9 : AC := .seq (.reg (.o 21 (.mov (.t 0)) (.o 22 (.nilCk (.t 21)) (.o 23 (.fldA 1 (.t 22)) (.o 24 (.load1 .ptr (.t 23)) (.o 25 (.nilCk (.t 24)) (.o 26 (.fldA 0 (.t 25)) (.o 27 (.load1 .ptr (.t 26)) (.o 28 (.call 65 [(.t 27)] (.r (.one .sl))) (.o 29 (.call 39 [(.t 28)] (.tup [.one .ptr, .one (.int .i64)])) (.o 20 (.mov (.t 29)) (.o 30 (.ext (.t 20) 0) (.o 31 (.ext (.t 20) 1) (.o 5 (.mov (.t 30)) (.o 6 (.mov (.t 31)) .nil)))))))))))))) []) C91_8
def C91_10 : AC := .cond (.t 19) (.kil (rg 1 55 []) (.pt C91_9)) .skip
def C91_11 : AC := .seq (.seq (.reg (.o 12 (.mov (.t 0)) (.o 13 (.nilCk (.t 12)) (.o 14 (.fldA 1 (.t 13)) (.o 15 (.load1 .ptr (.t 14)) (.o 16 (.nilCk (.t 15)) (.o 17 (.fldA 1 (.t 16)) (.o 18 (.load1 (.int .i64) (.t 17)) (.o 19 (.bin .gtr (.t 18) (.c (.int .i64 1))) .nil)))))))) []) C91_10) C91_3
def C91_12 : AC := .ret
def C91_13 : AC := .cond (.t 10) (.seq (.reg (.o 11 (.mov (.t 4)) (.o 2 (.mov (.c (.ptr none))) (.o 3 (.mov (.t 11)) .nil))) []) C91_12) .skip
def C91_14 : AC := .seq (.reg (.o 9 (.mov (.t 4)) (.o 10 (.bin .neq (.t 9) (.c (.int .i64 0))) .nil)) []) C91_13
def C91_15 : AC := .seq (.seq (.reg (.o 7 (.mov (.t 0)) (.o 8 (.call 44 [(.t 7)] (.r (.one (.int .i64)))) (.o 4 (.mov (.t 8)) .nil))) []) C91_14) C91_11
def C91_16 : AC := .seq (.reg (.o 2 (.mov (.c (.ptr none))) (.o 3 (.mov (.c (.int .i64 0))) .nil)) []) C91_15
def F91 : AFunc := { ntmps := 56, results := [.tmp 2, .tmp 3], body := C91_16 }
def p91_0 (x0_1 : Ad) (M : Mem) : Rs := run false call meth F91.results [.code C91_16] (some (.ptr x0_1) :: nn 55 []) M
def p91_1 (x0_107 : Ad) (M : Mem) : Rs := run false call meth F91.results [.code C91_9, .code C91_3] (some (.ptr x0_107) :: nn 55 []) M
def p91_2 (x0_108 : Ad) (M : Mem) : Rs := run false call meth F91.results [.code C91_2] (some (.ptr x0_108) :: nn 55 []) M
theorem p91_0_eq (x0_1 : Ad) (M : Mem) : p91_0 call meth x0_1 M = (Option.bind (call 44 [.ptr x0_1] M) fun r101 => (Option.bind (r101.1.int? .i64) fun x102 => (cond (x102 != 0) (some (.tup [.ptr none, .int .i64 x102], r101.2)) (Option.bind x0_1 fun p103 => (Option.bind (r101.2.ldP p103.1 (p103.2 + 1)) fun x104 => (Option.bind x104 fun p105 => (Option.bind (r101.2.ldI .i64 p105.1 (p105.2 + 1)) fun x106 => (cond (decide (x106 > 1)) (p91_1 call meth x0_1 r101.2) (p91_2 call meth x0_1 r101.2))))))))) :=
  (seg_run false call meth F91.results 100000 [.code C91_16] _ M).symm.trans (by kernel_rfl)
theorem p91_1_eq (x0_107 : Ad) (M : Mem) : p91_1 call meth x0_107 M = (Option.bind x0_107 fun p201 => (Option.bind (M.ldP p201.1 (p201.2 + 1)) fun x202 => (Option.bind x202 fun p203 => (Option.bind (M.ldP p203.1 (p203.2 + 0)) fun x204 => (Option.bind (call 65 [.ptr x204] M) fun r205 => (Option.bind (r205.1.sl?) fun x206 => (Option.bind (call 39 [.sl x206.1 x206.2.1 x206.2.2] r205.2) fun r207 => (Option.bind r207.1.tup? fun l208 => (Option.bind l208.head? fun v209 => (Option.bind (v209.ptr?) fun x210 => (Option.bind l208.tail.head? fun v211 => (Option.bind (v211.int? .i64) fun x212 => (cond l208.tail.tail.isEmpty (cond (x212 != 0) (some (.tup [.ptr none, .int .i64 x212], r207.2)) (Option.bind x0_107 fun p213 => (Option.bind (r207.2.ldP p213.1 (p213.2 + 1)) fun x214 => (Option.bind x214 fun p215 => (Option.bind (r207.2.ldI .i64 p215.1 (p215.2 + 1)) fun x216 => (Option.bind x214 fun p217 => (Option.bind (r207.2.st p217.1 (p217.2 + 1) [.int .i64 (IntKind.wrap .i64 (x216 - 1))]) fun M218 => (Option.bind x0_107 fun p219 => (Option.bind (M218.st p219.1 (p219.2 + 1) [.ptr x210]) fun M220 => (p91_2 call meth x0_107 M220)))))))))) none))))))))))))) :=
  (seg_run false call meth F91.results 100000 [.code C91_9, .code C91_3] _ M).symm.trans (by kernel_rfl)
theorem p91_2_eq (x0_108 : Ad) (M : Mem) : p91_2 call meth x0_108 M = (Option.bind x0_108 fun p301 => (Option.bind (M.ldP p301.1 (p301.2 + 1)) fun x302 => (Option.bind x302 fun p303 => (Option.bind (M.ldP p303.1 (p303.2 + 0)) fun x304 => (some (.tup [.ptr x304, .int .i64 0], M)))))) :=
  (seg_run false call meth F91.results 100000 [.code C91_2] _ M).symm.trans (by kernel_rfl)
theorem run91 (x0_1 : Ad) (M : Mem) : run false call meth F91.results [.code F91.body] (frame0 F91 [.ptr x0_1]) M = p91_0 call meth x0_1 M := by kernel_rfl
theorem ok91 : okFn Try.prog 91 F91 = true := by kernel_rfl
def C92_1 : AC := .ret
def C92_2 : AC := .seq (.reg (.o 8 (.mov (.c (.int .i64 0))) .nil) []) C92_1
def C92_3 : AC := .reg (.o 42 (.bin .add (.t 28) (.c (.int .i64 1))) (.o 28 (.mov (.t 42)) .nil)) []
def C92_4 : AC := .reg (.o 31 (.mov (.t 10)) (.o 32 (.mov (.t 11)) (.o 33 (.mov (.t 3)) (.o 34 (.mov (.t 2)) (.o 35 (.bin .sub (.t 34) (.c (.int .i64 1))) (.o 36 (.mov (.t 11)) (.o 37 (.bin .sub (.t 35) (.t 36)) (.o 38 (.bin .mul (.c (.int .i64 8)) (.t 37)) (.o 39 (.shift .shr (.t 33) (.t 38)) (.o 40 (.convI .u8 (.t 39)) (.o 41 (.ixS 1 (.t 31) (.t 32)) (.op none (.store 1 (.t 41) (.t 40)) .nil)))))))))))) []
def C92_5 : AC := .seq (.block 1 (.seq (.reg (.o 30 (.mov (.t 28)) (.o 11 (.mov (.t 30)) .nil)) []) C92_4)) C92_3
def C92_6 : AC := .seq (.cond (.t 29) .skip (.exit 0)) C92_5
def C92_7 : AC := .seq (.reg (.o 29 (.bin .lss (.t 28) (.t 27)) .nil) []) C92_6
def C92_8 : AC := .kil (0 :: 1 :: rg 4 6 (rg 11 16 (rg 29 14 []))) (.pt C92_7)
def C92_9 : AC := .block 0 (.loop C92_8)
def C92_10 : AC := .seq (.seq (.reg (.o 26 (.mov (.t 10)) (.o 27 (.len (.t 26)) (.o 28 (.mov (.c (.int .i64 0))) .nil))) []) C92_9) C92_2
def C92_11 : AC := .seq (.reg (.o 19 (.mov (.t 0)) (.o 20 (.call 65 [(.t 19)] (.r (.one .sl))) (.o 21 (.mov (.t 1)) (.o 22 (.mov (.t 1)) (.o 23 (.mov (.t 2)) (.o 24 (.bin .add (.t 22) (.t 23)) (.o 25 (.slc 1 (.t 20) (some (.t 21)) (some (.t 24)) none) (.o 10 (.mov (.t 25)) .nil)))))))) []) C92_10
def C92_12 : AC := .ret
def C92_13 : AC := .cond (.t 17) (.seq (.reg (.o 18 (.mov (.t 9)) (.o 8 (.mov (.t 18)) .nil)) []) C92_12) .skip
def C92_14 : AC := .seq (.reg (.o 16 (.mov (.t 9)) (.o 17 (.bin .neq (.t 16) (.c (.int .i64 0))) .nil)) []) C92_13
def C92_15 : AC := .seq (.seq (.reg (.o 12 (.mov (.t 0)) (.o 13 (.mov (.t 1)) (.o 14 (.mov (.t 2)) (.o 15 (.call 103 [(.t 12), (.t 13), (.t 14)] (.r (.one (.int .i64)))) (.o 9 (.mov (.t 15)) .nil))))) []) C92_14) C92_11
def C92_16 : AC := .seq (.reg (.o 8 (.mov (.c (.int .i64 0))) .nil) []) C92_15
def F92 : AFunc := { ntmps := 43, results := [.tmp 8], body := C92_16 }
def p92_0 (x0_1 : Ad) (x1_2 : Int) (x2_3 : Int) (x3_4 : Int) (M : Mem) : Rs := run false call meth F92.results [.code C92_16] (some (.ptr x0_1) :: some (.int .i64 x1_2) :: some (.int .i64 x2_3) :: some (.int .u64 x3_4) :: nn 39 []) M
def p92_1 (x2_106 : Int) (x3_107 : Int) (x10_108a : Ad) (x10_108l : Nat) (x10_108c : Cap) (x27_109 : Int) (x28_110 : Int) (M : Mem) : Rs := run false call meth F92.results [.code C92_7, .inLoop C92_8, .inBlock 0, .code C92_2] (none :: none :: some (.int .i64 x2_106) :: some (.int .u64 x3_107) :: nn 6 (some (.sl x10_108a x10_108l x10_108c) :: nn 16 (some (.int .i64 x27_109) :: some (.int .i64 x28_110) :: nn 14 []))) M
theorem p92_0_eq (x0_1 : Ad) (x1_2 : Int) (x2_3 : Int) (x3_4 : Int) (M : Mem) : p92_0 call meth x0_1 x1_2 x2_3 x3_4 M = (Option.bind (call 103 [.ptr x0_1, .int .i64 x1_2, .int .i64 x2_3] M) fun r101 => (Option.bind (r101.1.int? .i64) fun x102 => (cond (x102 != 0) (some (.int .i64 x102, r101.2)) (Option.bind (call 65 [.ptr x0_1] r101.2) fun r103 => (Option.bind (r103.1.sl?) fun x104 => (slcK false 1 x104.1 x104.2.1 x104.2.2 r103.2 (some (.int .i64 x1_2)) (some (.int .i64 (IntKind.wrap .i64 (x1_2 + x2_3)))) none fun s105a s105l s105c => (p92_1 call meth x2_3 x3_4 s105a s105l s105c ((s105l : Nat) : Int) 0 r103.2))))))) :=
  (seg_run false call meth F92.results 100000 [.code C92_16] _ M).symm.trans (by kernel_rfl)
theorem p92_1_eq (x2_106 : Int) (x3_107 : Int) (x10_108a : Ad) (x10_108l : Nat) (x10_108c : Cap) (x27_109 : Int) (x28_110 : Int) (M : Mem) : p92_1 call meth x2_106 x3_107 x10_108a x10_108l x10_108c x27_109 x28_110 M = (cond (decide (x28_110 < x27_109)) (cond (decide ((IntKind.wrap .i64 (8 * (IntKind.wrap .i64 ((IntKind.wrap .i64 (x2_106 - 1)) - x28_110)))) < 0)) none (cond (decide (0 ≤ x28_110)) (cond (Nat.blt x28_110.toNat x10_108l) (Option.bind (slPtr x10_108a x10_108c) fun p201 => (Option.bind (M.st p201.1 (p201.2 + x28_110.toNat * 1) [.int .u8 (IntKind.wrap .u8 (Int.fdiv x3_107 (2 ^ Nat.min (IntKind.wrap .i64 (8 * (IntKind.wrap .i64 ((IntKind.wrap .i64 (x2_106 - 1)) - x28_110)))).toNat (IntKind.bits .u64))))]) fun M202 => (p92_1 call meth x2_106 x3_107 x10_108a x10_108l x10_108c x27_109 (IntKind.wrap .i64 (x28_110 + 1)) M202))) none) none)) (some (.int .i64 0, M))) :=
  (seg_run false call meth F92.results 100000 [.code C92_7, .inLoop C92_8, .inBlock 0, .code C92_2] _ M).symm.trans (by kernel_rfl)
theorem run92 (x0_1 : Ad) (x1_2 : Int) (x2_3 : Int) (x3_4 : Int) (M : Mem) : run false call meth F92.results [.code F92.body] (frame0 F92 [.ptr x0_1, .int .i64 x1_2, .int .i64 x2_3, .int .u64 x3_4]) M = p92_0 call meth x0_1 x1_2 x2_3 x3_4 M := by kernel_rfl
theorem ok92 : okFn Try.prog 92 F92 = true := by kernel_rfl
def C95_1 : AC := .ret
def C95_2 : AC := .seq (.reg (.o 7 (.mov (.t 0)) (.o 8 (.com (.t 7)) (.o 9 (.mov (.t 1)) (.o 10 (.com (.t 9)) (.o 11 (.callP 106 [(.t 8), (.t 10)] (.r (.one (.int .u16)))) (.o 12 (.mov (.t 2)) (.o 13 (.callP 106 [(.t 11), (.t 12)] (.r (.one (.int .u16)))) (.o 14 (.com (.t 13)) (.o 6 (.mov (.t 14)) .nil))))))))) []) C95_1
def C95_3 : AC := .seq (.reg (.o 6 (.mov (.c (.int .u16 0))) .nil) []) C95_2
def F95 : AFunc := { ntmps := 15, results := [.tmp 6], body := C95_3 }
def p95_0 (x0_1 : Int) (x1_2 : Int) (x2_3 : Int) (M : Mem) : Rs := run false call meth F95.results [.code C95_3] (some (.int .u16 x0_1) :: some (.int .u16 x1_2) :: some (.int .u16 x2_3) :: nn 12 []) M
theorem p95_0_eq (x0_1 : Int) (x1_2 : Int) (x2_3 : Int) (M : Mem) : p95_0 call meth x0_1 x1_2 x2_3 M = (Option.bind (call 106 [.int .u16 (IntKind.wrap .u16 ((BitVec.ofInt (IntKind.bits .u16) (IntKind.max .u16) ^^^ BitVec.ofInt (IntKind.bits .u16) x0_1).toNat)), .int .u16 (IntKind.wrap .u16 ((BitVec.ofInt (IntKind.bits .u16) (IntKind.max .u16) ^^^ BitVec.ofInt (IntKind.bits .u16) x1_2).toNat))] Mem.empty) fun r101 => (Option.bind (r101.1.int? .u16) fun x102 => (Option.bind (call 106 [.int .u16 x102, .int .u16 x2_3] Mem.empty) fun r103 => (Option.bind (r103.1.int? .u16) fun x104 => (some (.int .u16 (IntKind.wrap .u16 ((BitVec.ofInt (IntKind.bits .u16) (IntKind.max .u16) ^^^ BitVec.ofInt (IntKind.bits .u16) x104).toNat)), M)))))) :=
  (seg_run false call meth F95.results 100000 [.code C95_3] _ M).symm.trans (by kernel_rfl)
theorem run95 (x0_1 : Int) (x1_2 : Int) (x2_3 : Int) (M : Mem) : run false call meth F95.results [.code F95.body] (frame0 F95 [.int .u16 x0_1, .int .u16 x1_2, .int .u16 x2_3]) M = p95_0 call meth x0_1 x1_2 x2_3 M := by kernel_rfl
theorem ok95 : okFn Try.prog 95 F95 = true := by kernel_rfl
def C103_1 : AC := .ret
def C103_2 : AC := .seq (.reg (.o 6 (.mov (.c (.int .i64 0))) .nil) []) C103_1
def C103_3 : AC := .ret
def C103_4 : AC := .ret
def C103_5 : AC := .ret
def C103_6 : AC := .cond (.t 17) (.seq (.reg (.o 6 (.mov (.c (.int .i64 20))) .nil) []) C103_5) .skip
def C103_7 : AC := .cond (.t 10) (.seq (.reg (.o 6 (.mov (.c (.int .i64 2))) .nil) []) C103_4) (.seq (.reg (.o 18 (.mov (.t 1)) (.o 19 (.bin .lss (.t 18) (.c (.int .i64 0))) (.o 20 (.mov (.t 19)) (.grp 20 false (.o 21 (.mov (.t 1)) (.o 22 (.mov (.t 0)) (.o 23 (.call 104 [(.t 22)] (.r (.one (.int .i64)))) (.o 24 (.mov (.t 2)) (.o 25 (.bin .sub (.t 23) (.t 24)) (.o 26 (.bin .gtr (.t 21) (.t 25)) .nil)))))) (.o 27 (.pick (.t 20) (.c (.bool true)) (.t 26)) (.o 17 (.mov (.t 27)) .nil)))))) []) C103_6)
def C103_8 : AC := .seq (.reg (.o 11 (.mov (.t 2)) (.o 12 (.bin .lss (.t 11) (.c (.int .i64 1))) (.o 13 (.mov (.t 12)) (.grp 13 false (.o 14 (.mov (.t 2)) (.o 15 (.bin .gtr (.t 14) (.c (.int .i64 8))) .nil)) (.o 16 (.pick (.t 13) (.c (.bool true)) (.t 15)) (.o 10 (.mov (.t 16)) .nil)))))) []) C103_7
def C103_9 : AC := .cond (.t 7) (.seq (.reg (.o 6 (.mov (.c (.int .i64 1))) .nil) []) C103_3) (.kil (rg 3 25 []) (.pt C103_8))
def C103_10 : AC := .seq (.block 0 (.seq (.reg (.o 8 (.mov (.t 0)) (.o 9 (.call 89 [(.t 8)] (.r (.one .bool))) (.o 7 (.mov (.t 9)) .nil))) []) C103_9)) C103_2
def C103_11 : AC := .seq (.reg (.o 6 (.mov (.c (.int .i64 0))) .nil) []) C103_10
def F103 : AFunc := { ntmps := 28, results := [.tmp 6], body := C103_11 }
def p103_0 (x0_1 : Ad) (x1_2 : Int) (x2_3 : Int) (M : Mem) : Rs := run false call meth F103.results [.code C103_11] (some (.ptr x0_1) :: some (.int .i64 x1_2) :: some (.int .i64 x2_3) :: nn 25 []) M
def p103_1 (x0_103 : Ad) (x1_104 : Int) (x2_105 : Int) (M : Mem) : Rs := run false call meth F103.results [.code C103_8, .inBlock 0, .code C103_2] (some (.ptr x0_103) :: some (.int .i64 x1_104) :: some (.int .i64 x2_105) :: nn 25 []) M
theorem p103_0_eq (x0_1 : Ad) (x1_2 : Int) (x2_3 : Int) (M : Mem) : p103_0 call meth x0_1 x1_2 x2_3 M = (Option.bind (call 89 [.ptr x0_1] M) fun r101 => (Option.bind (r101.1.bool?) fun x102 => (cond x102 (some (.int .i64 1, r101.2)) (p103_1 call meth x0_1 x1_2 x2_3 r101.2)))) :=
  (seg_run false call meth F103.results 100000 [.code C103_11] _ M).symm.trans (by kernel_rfl)
theorem p103_1_eq (x0_103 : Ad) (x1_104 : Int) (x2_105 : Int) (M : Mem) : p103_1 call meth x0_103 x1_104 x2_105 M = (cond (decide (x2_105 < 1)) (some (.int .i64 2, M)) (cond (decide (x2_105 > 8)) (some (.int .i64 2, M)) (cond (decide (x1_104 < 0)) (some (.int .i64 20, M)) (Option.bind (call 104 [.ptr x0_103] M) fun r201 => (Option.bind (r201.1.int? .i64) fun x202 => (cond (decide (x1_104 > (IntKind.wrap .i64 (x202 - x2_105)))) (some (.int .i64 20, r201.2)) (some (.int .i64 0, r201.2)))))))) :=
  (seg_run false call meth F103.results 100000 [.code C103_8, .inBlock 0, .code C103_2] _ M).symm.trans (by kernel_rfl)
theorem run103 (x0_1 : Ad) (x1_2 : Int) (x2_3 : Int) (M : Mem) : run false call meth F103.results [.code F103.body] (frame0 F103 [.ptr x0_1, .int .i64 x1_2, .int .i64 x2_3]) M = p103_0 call meth x0_1 x1_2 x2_3 M := by kernel_rfl
theorem ok103 : okFn Try.prog 103 F103 = true := by kernel_rfl
def C104_1 : AC := .ret
def C104_2 : AC := .seq (.drw (.o 5 (.mov (.t 0)) (.o 6 (.nilCk (.t 5)) (.o 7 (.fldA 3 (.t 6)) (.o 8 (.load1 (.int .i64) (.t 7)) (.o 9 (.mov (.t 0)) (.o 10 (.nilCk (.t 9)) (.o 11 (.fldA 2 (.t 10)) (.o 12 (.load1 (.int .i64) (.t 11)) (.o 13 (.bin .sub (.t 8) (.t 12)) (.o 2 (.mov (.t 13)) .nil)))))))))) [] []) C104_1
def C104_3 : AC := .ret
def C104_4 : AC := .cond (.t 4) (.seq (.reg (.o 2 (.mov (.c (.int .i64 0))) .nil) []) C104_3) .skip
def C104_5 : AC := .seq (.seq (.reg (.o 3 (.mov (.t 0)) (.o 4 (.call 89 [(.t 3)] (.r (.one .bool))) .nil)) []) C104_4) C104_2
def C104_6 : AC := .seq (.reg (.o 2 (.mov (.c (.int .i64 0))) .nil) []) C104_5
def F104 : AFunc := { ntmps := 14, results := [.tmp 2], body := C104_6 }
def p104_0 (x0_1 : Ad) (M : Mem) : Rs := run false call meth F104.results [.code C104_6] (some (.ptr x0_1) :: nn 13 []) M
theorem p104_0_eq (x0_1 : Ad) (M : Mem) : p104_0 call meth x0_1 M = (Option.bind (call 89 [.ptr x0_1] M) fun r101 => (Option.bind (r101.1.bool?) fun x102 => (cond x102 (some (.int .i64 0, r101.2)) (Option.bind x0_1 fun p103 => (Option.bind (r101.2.ldI .i64 p103.1 (p103.2 + 3)) fun x104 => (Option.bind x0_1 fun p105 => (Option.bind (r101.2.ldI .i64 p105.1 (p105.2 + 2)) fun x106 => (some (.int .i64 (IntKind.wrap .i64 (x104 - x106)), r101.2))))))))) :=
  (seg_run false call meth F104.results 100000 [.code C104_6] _ M).symm.trans (by kernel_rfl)
theorem run104 (x0_1 : Ad) (M : Mem) : run false call meth F104.results [.code F104.body] (frame0 F104 [.ptr x0_1]) M = p104_0 call meth x0_1 M := by kernel_rfl
theorem ok104 : okFn Try.prog 104 F104 = true := by kernel_rfl
def C106_1 : AC := .ret
def C106_2 : AC := .seq (.reg (.o 5 (.mov (.t 0)) (.o 6 (.convI .u64 (.t 5)) (.o 7 (.mov (.t 1)) (.o 8 (.convI .u64 (.t 7)) (.o 9 (.bin .add (.t 6) (.t 8)) (.o 10 (.callP 48 [(.t 9)] (.r (.one (.int .u16)))) (.o 4 (.mov (.t 10)) .nil))))))) []) C106_1
def C106_3 : AC := .seq (.reg (.o 4 (.mov (.c (.int .u16 0))) .nil) []) C106_2
def F106 : AFunc := { ntmps := 11, results := [.tmp 4], body := C106_3 }
def p106_0 (x0_1 : Int) (x1_2 : Int) (M : Mem) : Rs := run false call meth F106.results [.code C106_3] (some (.int .u16 x0_1) :: some (.int .u16 x1_2) :: nn 9 []) M
theorem p106_0_eq (x0_1 : Int) (x1_2 : Int) (M : Mem) : p106_0 call meth x0_1 x1_2 M = (Option.bind (call 48 [.int .u64 (IntKind.wrap .u64 ((IntKind.wrap .u64 x0_1) + (IntKind.wrap .u64 x1_2)))] Mem.empty) fun r101 => (Option.bind (r101.1.int? .u16) fun x102 => (some (.int .u16 x102, M)))) :=
  (seg_run false call meth F106.results 100000 [.code C106_3] _ M).symm.trans (by kernel_rfl)
theorem run106 (x0_1 : Int) (x1_2 : Int) (M : Mem) : run false call meth F106.results [.code F106.body] (frame0 F106 [.int .u16 x0_1, .int .u16 x1_2]) M = p106_0 call meth x0_1 x1_2 M := by kernel_rfl
theorem ok106 : okFn Try.prog 106 F106 = true := by kernel_rfl
end
end Go.Proofs.Ytidofnpfeibbfaa.M
