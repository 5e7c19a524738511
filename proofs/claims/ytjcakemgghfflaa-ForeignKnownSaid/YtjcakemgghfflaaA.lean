import Derived.Test.YtjcakemgghfflaaXRen
import Derived.Test.YtjcakemgghfflaaProg
set_option linter.unusedVariables false
set_option maxRecDepth 100000
namespace Go.Proofs.Ytjcakemgghfflaa.M
open Go.Abs
noncomputable section
variable (call : CallF) (meth : MethF)
def C10_1 : AC := .ret
def C10_2 : AC := .seq (.reg (.o 12 (.mov (.t 0)) (.o 4 (.mov (.t 12)) .nil)) []) C10_1
def C10_3 : AC := .ret
def C10_4 : AC := .cond (.t 8) (.seq (.reg (.o 9 (.mov (.t 0)) (.o 10 (.mov (.t 1)) (.o 11 (.slc 1 (.t 9) none (some (.t 10)) none) (.o 4 (.mov (.t 11)) .nil)))) []) C10_3) .skip
def C10_5 : AC := .seq (.seq (.reg (.o 5 (.mov (.t 0)) (.o 6 (.len (.t 5)) (.o 7 (.mov (.t 1)) (.o 8 (.bin .gtr (.t 6) (.t 7)) .nil)))) []) C10_4) C10_2
def C10_6 : AC := .seq (.reg (.o 4 (.mov (.c (.sl none 0 (.known 0)))) .nil) []) C10_5
def F10 : AFunc := { ntmps := 13, results := [.tmp 4], body := C10_6 }
theorem ok10 : okFn Try.prog 10 F10 = true := by kernel_rfl
def C11_1 : AC := .ret
def C11_2 : AC := .seq (.reg (.o 14 (.mov (.t 4)) (.o 15 (.build [.bool false, .ptr none] [(0, 1, (.c (.bool true))), (1, 1, (.t 14))]) (.o 16 (.box (.t 15)) (.o 2 (.mov (.t 16)) (.o 3 (.mov (.c (.int .i64 0))) .nil))))) []) C11_1
def C11_3 : AC := .ret
def C11_4 : AC := .cond (.t 12) (.seq (.reg (.o 13 (.mov (.t 5)) (.o 2 (.mov (.c (.ptr none))) (.o 3 (.mov (.t 13)) .nil))) []) C11_3) .skip
def C11_5 : AC := .seq (.seq (.reg (.o 11 (.mov (.t 5)) (.o 12 (.bin .neq (.t 11) (.c (.int .i64 0))) .nil)) []) C11_4) C11_2
def C11_6 : AC := .seq (.reg (.o 7 (.mov (.t 0)) (.o 8 (.call 31 [(.t 7)] (.tup [.one .ptr, .one (.int .i64)])) (.o 6 (.mov (.t 8)) (.o 9 (.ext (.t 6) 0) (.o 10 (.ext (.t 6) 1) (.o 4 (.mov (.t 9)) (.o 5 (.mov (.t 10)) .nil))))))) []) C11_5
def C11_7 : AC := .seq (.reg (.o 2 (.mov (.c (.ptr none))) (.o 3 (.mov (.c (.int .i64 0))) .nil)) []) C11_6
def F11 : AFunc := { ntmps := 17, results := [.tmp 2, .tmp 3], body := C11_7 }
def p11_0 (x0_1a : Ad) (x0_1l : Nat) (x0_1c : Cap) (M : Mem) : Rs := run false call meth F11.results [.code C11_7] (some (.sl x0_1a x0_1l x0_1c) :: nn 16 []) M
theorem p11_0_eq (x0_1a : Ad) (x0_1l : Nat) (x0_1c : Cap) (M : Mem) : p11_0 call meth x0_1a x0_1l x0_1c M = (Option.bind (call 31 [.sl x0_1a x0_1l x0_1c] M) fun r101 => (Option.bind r101.1.tup? fun l102 => (Option.bind l102.head? fun v103 => (Option.bind (v103.ptr?) fun x104 => (Option.bind l102.tail.head? fun v105 => (Option.bind (v105.int? .i64) fun x106 => (cond l102.tail.tail.isEmpty (cond (x106 != 0) (some (.tup [.ptr none, .int .i64 x106], r101.2)) (let M107 := r101.2.alloc ⟨[.bool true, .ptr x104], .fixed⟩; (some (.tup [.ptr (some (r101.2.n, 0)), .int .i64 0], M107)))) none))))))) :=
  (seg_run false call meth F11.results 100000 [.code C11_7] _ M).symm.trans (by kernel_rfl)
theorem run11 (x0_1a : Ad) (x0_1l : Nat) (x0_1c : Cap) (M : Mem) : run false call meth F11.results [.code F11.body] (frame0 F11 [.sl x0_1a x0_1l x0_1c]) M = p11_0 call meth x0_1a x0_1l x0_1c M := by kernel_rfl
theorem ok11 : okFn Try.prog 11 F11 = true := by kernel_rfl
def C13_1 : AC := .ret
def C13_2 : AC := .seq (.reg (.o 6 (.mov (.t 0)) (.o 7 (.nilCk (.t 6)) (.o 8 (.fldA 1 (.t 7)) (.o 9 (.load1 .ptr (.t 8)) (.o 10 (.nilCk (.t 9)) (.o 11 (.fldA 0 (.t 10)) (.o 12 (.load1 .ptr (.t 11)) (.o 13 (.call 38 [(.t 12)] (.r (.one .sl))) (.o 2 (.mov (.t 13)) .nil))))))))) []) C13_1
def C13_3 : AC := .ret
def C13_4 : AC := .cond (.t 5) (.seq (.reg (.o 2 (.mov (.c (.sl none 0 (.known 0)))) .nil) []) C13_3) .skip
def C13_5 : AC := .seq (.seq (.reg (.o 3 (.mov (.t 0)) (.o 4 (.call 37 [(.t 3)] (.r (.one (.int .i64)))) (.o 5 (.bin .neq (.t 4) (.c (.int .i64 0))) .nil))) []) C13_4) C13_2
def C13_6 : AC := .seq (.reg (.o 2 (.mov (.c (.sl none 0 (.known 0)))) .nil) []) C13_5
def F13 : AFunc := { ntmps := 14, results := [.tmp 2], body := C13_6 }
def p13_0 (x0_1 : Ad) (M : Mem) : Rs := run false call meth F13.results [.code C13_6] (some (.ptr x0_1) :: nn 13 []) M
theorem p13_0_eq (x0_1 : Ad) (M : Mem) : p13_0 call meth x0_1 M = (Option.bind (call 37 [.ptr x0_1] M) fun r101 => (Option.bind (r101.1.int? .i64) fun x102 => (cond (x102 != 0) (some (.sl none 0 (.known 0), r101.2)) (Option.bind x0_1 fun p103 => (Option.bind (r101.2.ldP p103.1 (p103.2 + 1)) fun x104 => (Option.bind x104 fun p105 => (Option.bind (r101.2.ldP p105.1 (p105.2 + 0)) fun x106 => (Option.bind (call 38 [.ptr x106] r101.2) fun r107 => (Option.bind (r107.1.sl?) fun x108 => (some (.sl x108.1 x108.2.1 x108.2.2, r107.2))))))))))) :=
  (seg_run false call meth F13.results 100000 [.code C13_6] _ M).symm.trans (by kernel_rfl)
theorem run13 (x0_1 : Ad) (M : Mem) : run false call meth F13.results [.code F13.body] (frame0 F13 [.ptr x0_1]) M = p13_0 call meth x0_1 M := by kernel_rfl
theorem ok13 : okFn Try.prog 13 F13 = true := by kernel_rfl
def C14_1 : AC := .ret
def C14_2 : AC := .seq (.reg (.o 5 (.fldA 0 (.t 2)) (.o 6 (.load1 (.int .i64) (.t 5)) (.o 7 (.bin .geq (.t 6) (.c (.int .i64 0))) (.o 8 (.mov (.t 7)) (.grp 8 true (.o 9 (.fldA 1 (.t 2)) (.o 10 (.load1 (.int .i64) (.t 9)) (.o 11 (.bin .geq (.t 10) (.c (.int .i64 0))) .nil))) (.o 12 (.pick (.t 8) (.t 11) (.c (.bool false))) (.o 13 (.mov (.t 12)) (.grp 13 true (.o 14 (.fldA 0 (.t 2)) (.o 15 (.load1 (.int .i64) (.t 14)) (.o 16 (.mov (.t 1)) (.o 17 (.bin .leq (.t 15) (.t 16)) .nil)))) (.o 18 (.pick (.t 13) (.t 17) (.c (.bool false))) (.o 19 (.mov (.t 18)) (.grp 19 true (.o 20 (.fldA 1 (.t 2)) (.o 21 (.load1 (.int .i64) (.t 20)) (.o 22 (.mov (.t 1)) (.o 23 (.fldA 0 (.t 2)) (.o 24 (.load1 (.int .i64) (.t 23)) (.o 25 (.bin .sub (.t 22) (.t 24)) (.o 26 (.bin .leq (.t 21) (.t 25)) .nil))))))) (.o 27 (.pick (.t 19) (.t 26) (.c (.bool false))) (.o 4 (.mov (.t 27)) .nil))))))))))))) []) C14_1
def C14_3 : AC := .seq (.reg (.o 2 (.box (.t 0)) (.o 4 (.mov (.c (.bool false))) .nil)) []) C14_2
def F14 : AFunc := { ntmps := 28, results := [.tmp 4], body := C14_3 }
theorem ok14 : okFn Try.prog 14 F14 = true := by kernel_rfl
def C15_1 : AC := .ret
def C15_2 : AC := .seq (.reg (.o 4 (.mov (.c (.bool true))) .nil) []) C15_1
def C15_3 : AC := .reg (.o 15 (.mov (.t 5)) (.o 16 (.bin .add (.t 15) (.c (.int .i64 1))) (.o 5 (.mov (.t 16)) .nil))) []
def C15_4 : AC := .ret
def C15_5 : AC := .cond (.t 25) (.seq (.reg (.o 4 (.mov (.c (.bool false))) .nil) []) C15_4) .skip
def C15_6 : AC := .seq (.block 1 (.seq (.drw (.o 17 (.mov (.t 0)) (.o 18 (.mov (.t 5)) (.o 19 (.ixS 1 (.t 17) (.t 18)) (.o 20 (.load1 (.int .u8) (.t 19)) (.o 21 (.mov (.t 1)) (.o 22 (.mov (.t 5)) (.o 23 (.ixS 1 (.t 21) (.t 22)) (.o 24 (.load1 (.int .u8) (.t 23)) (.o 25 (.bin .neq (.t 20) (.t 24)) .nil))))))))) [] []) C15_5)) C15_3
def C15_7 : AC := .cond (.t 14) .skip (.exit 0)
def C15_8 : AC := .seq (.seq (.reg (.o 11 (.mov (.t 5)) (.o 12 (.mov (.t 0)) (.o 13 (.len (.t 12)) (.o 14 (.bin .lss (.t 11) (.t 13)) .nil)))) []) C15_7) C15_6
def C15_9 : AC := .kil (2 :: 3 :: 4 :: rg 6 20 []) (.pt C15_8)
def C15_10 : AC := .block 0 (.loop C15_9)
def C15_11 : AC := .seq (.seq (.reg (.o 5 (.mov (.c (.int .i64 0))) .nil) []) C15_10) C15_2
def C15_12 : AC := .ret
def C15_13 : AC := .cond (.t 10) (.seq (.reg (.o 4 (.mov (.c (.bool false))) .nil) []) C15_12) .skip
def C15_14 : AC := .seq (.seq (.reg (.o 6 (.mov (.t 0)) (.o 7 (.len (.t 6)) (.o 8 (.mov (.t 1)) (.o 9 (.len (.t 8)) (.o 10 (.bin .neq (.t 7) (.t 9)) .nil))))) []) C15_13) C15_11
def C15_15 : AC := .seq (.reg (.o 4 (.mov (.c (.bool false))) .nil) []) C15_14
def F15 : AFunc := { ntmps := 26, results := [.tmp 4], body := C15_15 }
def p15_0 (x0_1a : Ad) (x0_1l : Nat) (x0_1c : Cap) (x1_2a : Ad) (x1_2l : Nat) (x1_2c : Cap) (M : Mem) : Rs := run false call meth F15.results [.code C15_15] (some (.sl x0_1a x0_1l x0_1c) :: some (.sl x1_2a x1_2l x1_2c) :: nn 24 []) M
def p15_1 (x0_101a : Ad) (x0_101l : Nat) (x0_101c : Cap) (x1_102a : Ad) (x1_102l : Nat) (x1_102c : Cap) (x5_103 : Int) (M : Mem) : Rs := run false call meth F15.results [.code C15_8, .inLoop C15_9, .inBlock 0, .code C15_2] (some (.sl x0_101a x0_101l x0_101c) :: some (.sl x1_102a x1_102l x1_102c) :: none :: none :: none :: some (.int .i64 x5_103) :: nn 20 []) M
theorem p15_0_eq (x0_1a : Ad) (x0_1l : Nat) (x0_1c : Cap) (x1_2a : Ad) (x1_2l : Nat) (x1_2c : Cap) (M : Mem) : p15_0 call meth x0_1a x0_1l x0_1c x1_2a x1_2l x1_2c M = (cond (((x0_1l : Nat) : Int) != ((x1_2l : Nat) : Int)) (some (.bool false, M)) (p15_1 call meth x0_1a x0_1l x0_1c x1_2a x1_2l x1_2c 0 M)) :=
  (seg_run false call meth F15.results 100000 [.code C15_15] _ M).symm.trans (by kernel_rfl)
theorem p15_1_eq (x0_101a : Ad) (x0_101l : Nat) (x0_101c : Cap) (x1_102a : Ad) (x1_102l : Nat) (x1_102c : Cap) (x5_103 : Int) (M : Mem) : p15_1 call meth x0_101a x0_101l x0_101c x1_102a x1_102l x1_102c x5_103 M = (cond (decide (x5_103 < ((x0_101l : Nat) : Int))) (cond (decide (0 ≤ x5_103)) (cond (Nat.blt x5_103.toNat x0_101l) (Option.bind (slPtr x0_101a x0_101c) fun p201 => (Option.bind (M.ldI .u8 p201.1 (p201.2 + x5_103.toNat * 1)) fun x202 => (cond (decide (0 ≤ x5_103)) (cond (Nat.blt x5_103.toNat x1_102l) (Option.bind (slPtr x1_102a x1_102c) fun p203 => (Option.bind (M.ldI .u8 p203.1 (p203.2 + x5_103.toNat * 1)) fun x204 => (cond (x202 != x204) (some (.bool false, M)) (p15_1 call meth x0_101a x0_101l x0_101c x1_102a x1_102l x1_102c (IntKind.wrap .i64 (x5_103 + 1)) M)))) none) none))) none) none) (some (.bool true, M))) :=
  (seg_run false call meth F15.results 100000 [.code C15_8, .inLoop C15_9, .inBlock 0, .code C15_2] _ M).symm.trans (by kernel_rfl)
theorem run15 (x0_1a : Ad) (x0_1l : Nat) (x0_1c : Cap) (x1_2a : Ad) (x1_2l : Nat) (x1_2c : Cap) (M : Mem) : run false call meth F15.results [.code F15.body] (frame0 F15 [.sl x0_1a x0_1l x0_1c, .sl x1_2a x1_2l x1_2c]) M = p15_0 call meth x0_1a x0_1l x0_1c x1_2a x1_2l x1_2c M := by kernel_rfl
theorem ok15 : okFn Try.prog 15 F15 = true := by kernel_rfl
def C16_1 : AC := .ret
def C16_2 : AC := .seq (.reg (.o 4 (.mov (.t 3)) (.o 5 (.mov (.t 0)) (.o 6 (.app 1 1 (.t 4) (.t 5)) (.o 2 (.mov (.t 6)) .nil)))) []) C16_1
def C16_3 : AC := .seq (.reg (.o 3 (.mov (.c (.sl none 0 (.known 0)))) .nil) []) C16_2
def C16_4 : AC := .seq (.reg (.o 2 (.mov (.c (.sl none 0 (.known 0)))) .nil) []) C16_3
def F16 : AFunc := { ntmps := 7, results := [.tmp 2], body := C16_4 }
theorem ok16 : okFn Try.prog 16 F16 = true := by kernel_rfl
def C18_1 : AC := .ret
def C18_2 : AC := .seq (.reg (.o 8 (.mov (.t 0)) (.o 9 (.mov (.t 1)) (.o 10 (.mov (.t 2)) (.o 11 (.call 42 [(.t 8), (.t 9), (.t 10)] (.tup [.one .sl, .one (.int .u64)])) (.o 12 (.ext (.t 11) 0) (.o 13 (.ext (.t 11) 1) (.o 6 (.mov (.t 12)) (.o 7 (.mov (.t 13)) .nil)))))))) []) C18_1
def C18_3 : AC := .seq (.reg (.o 6 (.mov (.c (.sl none 0 (.known 0)))) (.o 7 (.mov (.c (.int .u64 0))) .nil)) []) C18_2
def F18 : AFunc := { ntmps := 14, results := [.tmp 6, .tmp 7], body := C18_3 }
theorem ok18 : okFn Try.prog 18 F18 = true := by kernel_rfl
def C22_1 : AC := .ret
def C22_2 : AC := .seq (.reg (.o 2 (.mov (.c (.int .i64 0))) .nil) []) C22_1
def C22_3 : AC := .seq (.reg (.o 19 (.mov (.t 0)) (.o 20 (.nilCk (.t 19)) (.o 21 (.fldA 1 (.t 20)) (.op none (.store 1 (.t 21) (.c (.ptr none))) .nil)))) []) C22_2
def C22_4 : AC := .seq (.reg (.o 9 (.mov (.t 0)) (.o 10 (.nilCk (.t 9)) (.o 11 (.fldA 1 (.t 10)) (.o 12 (.load1 .ptr (.t 11)) (.o 13 (.nilCk (.t 12)) (.o 14 (.fldA 1 (.t 13)) (.o 15 (.load1 (.int .i64) (.t 14)) (.o 16 (.bin .sub (.t 15) (.c (.int .i64 1))) (.o 17 (.nilCk (.t 12)) (.o 18 (.fldA 1 (.t 17)) (.op none (.store 1 (.t 18) (.t 16)) .nil))))))))))) []) C22_3
def C22_5 : AC := .ret
def C22_6 : AC := .cond (.t 7) (.seq (.reg (.o 8 (.mov (.t 3)) (.o 2 (.mov (.t 8)) .nil)) []) C22_5) .skip
def C22_7 : AC := .seq (.reg (.o 6 (.mov (.t 3)) (.o 7 (.bin .neq (.t 6) (.c (.int .i64 0))) .nil)) []) C22_6
def C22_8 : AC := .seq (.seq (.reg (.o 4 (.mov (.t 0)) (.o 5 (.call 37 [(.t 4)] (.r (.one (.int .i64)))) (.o 3 (.mov (.t 5)) .nil))) []) C22_7) C22_4
def C22_9 : AC := .seq (.reg (.o 2 (.mov (.c (.int .i64 0))) .nil) []) C22_8
def F22 : AFunc := { ntmps := 22, results := [.tmp 2], body := C22_9 }
def p22_0 (x0_1 : Ad) (M : Mem) : Rs := run false call meth F22.results [.code C22_9] (some (.ptr x0_1) :: nn 21 []) M
theorem p22_0_eq (x0_1 : Ad) (M : Mem) : p22_0 call meth x0_1 M = (Option.bind (call 37 [.ptr x0_1] M) fun r101 => (Option.bind (r101.1.int? .i64) fun x102 => (cond (x102 != 0) (some (.int .i64 x102, r101.2)) (Option.bind x0_1 fun p103 => (Option.bind (r101.2.ldP p103.1 (p103.2 + 1)) fun x104 => (Option.bind x104 fun p105 => (Option.bind (r101.2.ldI .i64 p105.1 (p105.2 + 1)) fun x106 => (Option.bind x104 fun p107 => (Option.bind (r101.2.st p107.1 (p107.2 + 1) [.int .i64 (IntKind.wrap .i64 (x106 - 1))]) fun M108 => (Option.bind x0_1 fun p109 => (Option.bind (M108.st p109.1 (p109.2 + 1) [.ptr none]) fun M110 => (some (.int .i64 0, M110))))))))))))) :=
  (seg_run false call meth F22.results 100000 [.code C22_9] _ M).symm.trans (by kernel_rfl)
theorem run22 (x0_1 : Ad) (M : Mem) : run false call meth F22.results [.code F22.body] (frame0 F22 [.ptr x0_1]) M = p22_0 call meth x0_1 M := by kernel_rfl
theorem ok22 : okFn Try.prog 22 F22 = true := by kernel_rfl
def C23_1 : AC := .ret
def C23_2 : AC := .seq (.reg (.o 14 (.mov (.t 4)) (.o 15 (.build [.ptr none, .int .i64 0] [(0, 1, (.t 14)), (1, 1, (.c (.int .i64 1)))]) (.o 16 (.box (.t 15)) (.o 17 (.build [.ptr none, .bool false] [(0, 1, (.t 16))]) (.o 18 (.box (.t 17)) (.o 2 (.mov (.t 18)) (.o 3 (.mov (.c (.int .i64 0))) .nil))))))) []) C23_1
def C23_3 : AC := .ret
def C23_4 : AC := .cond (.t 12) (.seq (.reg (.o 13 (.mov (.t 5)) (.o 2 (.mov (.c (.ptr none))) (.o 3 (.mov (.t 13)) .nil))) []) C23_3) .skip
def C23_5 : AC := .seq (.seq (.reg (.o 11 (.mov (.t 5)) (.o 12 (.bin .neq (.t 11) (.c (.int .i64 0))) .nil)) []) C23_4) C23_2
def C23_6 : AC := .seq (.reg (.o 7 (.mov (.t 0)) (.o 8 (.call 43 [(.t 7), (.c (.int .i64 64)), (.c (.int .i64 64))] (.tup [.one .ptr, .one (.int .i64)])) (.o 6 (.mov (.t 8)) (.o 9 (.ext (.t 6) 0) (.o 10 (.ext (.t 6) 1) (.o 4 (.mov (.t 9)) (.o 5 (.mov (.t 10)) .nil))))))) []) C23_5
def C23_7 : AC := .seq (.reg (.o 2 (.mov (.c (.ptr none))) (.o 3 (.mov (.c (.int .i64 0))) .nil)) []) C23_6
def F23 : AFunc := { ntmps := 19, results := [.tmp 2, .tmp 3], body := C23_7 }
theorem ok23 : okFn Try.prog 23 F23 = true := by kernel_rfl
def C24_1 : AC := .ret
def C24_2 : AC := .seq (.reg (.o 20 (.mov (.t 0)) (.o 21 (.nilCk (.t 20)) (.o 22 (.fldA 1 (.t 21)) (.o 23 (.load1 .ptr (.t 22)) (.o 24 (.build [.bool false, .ptr none] [(0, 1, (.c (.bool true))), (1, 1, (.t 23))]) (.o 25 (.box (.t 24)) (.o 2 (.mov (.t 25)) (.o 3 (.mov (.c (.int .i64 0))) .nil)))))))) []) C24_1
def C24_3 : AC := .seq (.reg (.o 10 (.mov (.t 0)) (.o 11 (.nilCk (.t 10)) (.o 12 (.fldA 1 (.t 11)) (.o 13 (.load1 .ptr (.t 12)) (.o 14 (.nilCk (.t 13)) (.o 15 (.fldA 1 (.t 14)) (.o 16 (.load1 (.int .i64) (.t 15)) (.o 17 (.bin .add (.t 16) (.c (.int .i64 1))) (.o 18 (.nilCk (.t 13)) (.o 19 (.fldA 1 (.t 18)) (.op none (.store 1 (.t 19) (.t 17)) .nil))))))))))) []) C24_2
def C24_4 : AC := .ret
def C24_5 : AC := .cond (.t 8) (.seq (.reg (.o 9 (.mov (.t 4)) (.o 2 (.mov (.c (.ptr none))) (.o 3 (.mov (.t 9)) .nil))) []) C24_4) .skip
def C24_6 : AC := .seq (.reg (.o 7 (.mov (.t 4)) (.o 8 (.bin .neq (.t 7) (.c (.int .i64 0))) .nil)) []) C24_5
def C24_7 : AC := .seq (.seq (.reg (.o 5 (.mov (.t 0)) (.o 6 (.call 37 [(.t 5)] (.r (.one (.int .i64)))) (.o 4 (.mov (.t 6)) .nil))) []) C24_6) C24_3
def C24_8 : AC := .seq (.reg (.o 2 (.mov (.c (.ptr none))) (.o 3 (.mov (.c (.int .i64 0))) .nil)) []) C24_7
def F24 : AFunc := { ntmps := 26, results := [.tmp 2, .tmp 3], body := C24_8 }
theorem ok24 : okFn Try.prog 24 F24 = true := by kernel_rfl
def C25_1 : AC := .ret
def C25_2 : AC := .seq (.reg (.o 22 (.mov (.t 0)) (.o 23 (.nilCk (.t 22)) (.o 24 (.fldA 0 (.t 23)) (.o 25 (.load1 .ptr (.t 24)) (.o 26 (.build [.ptr none, .bool false] [(0, 1, (.t 25))]) (.o 27 (.box (.t 26)) (.o 2 (.mov (.t 27)) (.o 3 (.mov (.c (.int .i64 0))) .nil)))))))) []) C25_1
def C25_3 : AC := .seq (.drw (.o 8 (.mov (.t 0)) (.o 9 (.nilCk (.t 8)) (.o 10 (.fldA 0 (.t 9)) (.o 11 (.load1 .ptr (.t 10)) (.o 12 (.mov (.t 0)) (.o 13 (.nilCk (.t 12)) (.o 14 (.fldA 0 (.t 13)) (.o 15 (.load1 .ptr (.t 14)) (.o 16 (.nilCk (.t 15)) (.o 17 (.fldA 1 (.t 16)) (.o 18 (.load1 (.int .i64) (.t 17)) (.o 19 (.bin .add (.t 18) (.c (.int .i64 1))) (.o 20 (.nilCk (.t 11)) (.o 21 (.fldA 1 (.t 20)) (.op none (.store 1 (.t 21) (.t 19)) .nil))))))))))))))) [] []) C25_2
def C25_4 : AC := .ret
def C25_5 : AC := .cond (.t 7) (.seq (.reg (.o 2 (.mov (.c (.ptr none))) (.o 3 (.mov (.c (.int .i64 40))) .nil)) []) C25_4) .skip
def C25_6 : AC := .seq (.seq (.reg (.o 4 (.mov (.t 0)) (.o 5 (.nilCk (.t 4)) (.o 6 (.fldA 1 (.t 5)) (.o 7 (.load1 .bool (.t 6)) .nil)))) []) C25_5) C25_3
def C25_7 : AC := .seq (.reg (.o 2 (.mov (.c (.ptr none))) (.o 3 (.mov (.c (.int .i64 0))) .nil)) []) C25_6
def F25 : AFunc := { ntmps := 28, results := [.tmp 2, .tmp 3], body := C25_7 }
theorem ok25 : okFn Try.prog 25 F25 = true := by kernel_rfl
def C27_1 : AC := .ret
def C27_2 : AC := .seq (.reg (.o 7 (.mov (.t 0)) (.o 8 (.nilCk (.t 7)) (.o 9 (.fldA 0 (.t 8)) (.o 10 (.load1 .ptr (.t 9)) (.o 11 (.nilCk (.t 10)) (.o 12 (.fldA 0 (.t 11)) (.o 13 (.load1 .ptr (.t 12)) (.o 14 (.call 46 [(.t 13)] (.r (.one .sl))) (.o 2 (.mov (.t 14)) .nil))))))))) []) C27_1
def C27_3 : AC := .ret
def C27_4 : AC := .cond (.t 6) (.seq (.reg (.o 2 (.mov (.c (.sl none 0 (.known 0)))) .nil) []) C27_3) .skip
def C27_5 : AC := .seq (.seq (.reg (.o 3 (.mov (.t 0)) (.o 4 (.nilCk (.t 3)) (.o 5 (.fldA 1 (.t 4)) (.o 6 (.load1 .bool (.t 5)) .nil)))) []) C27_4) C27_2
def C27_6 : AC := .seq (.reg (.o 2 (.mov (.c (.sl none 0 (.known 0)))) .nil) []) C27_5
def F27 : AFunc := { ntmps := 15, results := [.tmp 2], body := C27_6 }
theorem ok27 : okFn Try.prog 27 F27 = true := by kernel_rfl
def C28_1 : AC := .ret
def C28_2 : AC := .seq (.reg (.o 6 (.mov (.t 0)) (.o 7 (.nilCk (.t 6)) (.o 8 (.fldA 1 (.t 7)) (.o 9 (.load1 .ptr (.t 8)) (.o 10 (.nilCk (.t 9)) (.o 11 (.fldA 1 (.t 10)) (.o 12 (.load1 (.int .i64) (.t 11)) (.o 2 (.mov (.t 12)) .nil)))))))) []) C28_1
def C28_3 : AC := .ret
def C28_4 : AC := .cond (.t 5) (.seq (.reg (.o 2 (.mov (.c (.int .i64 0))) .nil) []) C28_3) .skip
def C28_5 : AC := .seq (.seq (.reg (.o 3 (.mov (.t 0)) (.o 4 (.call 37 [(.t 3)] (.r (.one (.int .i64)))) (.o 5 (.bin .neq (.t 4) (.c (.int .i64 0))) .nil))) []) C28_4) C28_2
def C28_6 : AC := .seq (.reg (.o 2 (.mov (.c (.int .i64 0))) .nil) []) C28_5
def F28 : AFunc := { ntmps := 13, results := [.tmp 2], body := C28_6 }
def p28_0 (x0_1 : Ad) (M : Mem) : Rs := run false call meth F28.results [.code C28_6] (some (.ptr x0_1) :: nn 12 []) M
theorem p28_0_eq (x0_1 : Ad) (M : Mem) : p28_0 call meth x0_1 M = (Option.bind (call 37 [.ptr x0_1] M) fun r101 => (Option.bind (r101.1.int? .i64) fun x102 => (cond (x102 != 0) (some (.int .i64 0, r101.2)) (Option.bind x0_1 fun p103 => (Option.bind (r101.2.ldP p103.1 (p103.2 + 1)) fun x104 => (Option.bind x104 fun p105 => (Option.bind (r101.2.ldI .i64 p105.1 (p105.2 + 1)) fun x106 => (some (.int .i64 x106, r101.2))))))))) :=
  (seg_run false call meth F28.results 100000 [.code C28_6] _ M).symm.trans (by kernel_rfl)
theorem run28 (x0_1 : Ad) (M : Mem) : run false call meth F28.results [.code F28.body] (frame0 F28 [.ptr x0_1]) M = p28_0 call meth x0_1 M := by kernel_rfl
theorem ok28 : okFn Try.prog 28 F28 = true := by kernel_rfl
def C29_1 : AC := .ret
def C29_2 : AC := .seq (.reg (.o 7 (.mov (.t 0)) (.o 8 (.nilCk (.t 7)) (.o 9 (.fldA 0 (.t 8)) (.o 10 (.load1 .ptr (.t 9)) (.o 11 (.nilCk (.t 10)) (.o 12 (.fldA 1 (.t 11)) (.o 13 (.load1 (.int .i64) (.t 12)) (.o 2 (.mov (.t 13)) .nil)))))))) []) C29_1
def C29_3 : AC := .ret
def C29_4 : AC := .cond (.t 6) (.seq (.reg (.o 2 (.mov (.c (.int .i64 0))) .nil) []) C29_3) .skip
def C29_5 : AC := .seq (.seq (.reg (.o 3 (.mov (.t 0)) (.o 4 (.nilCk (.t 3)) (.o 5 (.fldA 1 (.t 4)) (.o 6 (.load1 .bool (.t 5)) .nil)))) []) C29_4) C29_2
def C29_6 : AC := .seq (.reg (.o 2 (.mov (.c (.int .i64 0))) .nil) []) C29_5
def F29 : AFunc := { ntmps := 14, results := [.tmp 2], body := C29_6 }
theorem ok29 : okFn Try.prog 29 F29 = true := by kernel_rfl
def C30_1 : AC := .ret
def C30_2 : AC := .seq (.reg (.o 31 (.mov (.t 11)) (.o 32 (.mov (.t 1)) (.o 33 (.mov (.t 2)) (.o 34 (.mov (.t 3)) (.o 35 (.call 47 [(.t 31), (.t 32), (.t 33), (.t 34)] (.r (.one (.int .i64)))) (.o 8 (.mov (.t 35)) .nil)))))) []) C30_1
def C30_3 : AC := .ret
def C30_4 : AC := .cond (.t 29) (.seq (.reg (.o 30 (.mov (.t 12)) (.o 8 (.mov (.t 30)) .nil)) []) C30_3) .skip
def C30_5 : AC := .seq (.seq (.reg (.o 28 (.mov (.t 12)) (.o 29 (.bin .neq (.t 28) (.c (.int .i64 0))) .nil)) []) C30_4) C30_2
def C30_6 : AC := .seq (.reg (.o 24 (.mov (.t 0)) (.o 25 (.call 34 [(.t 24)] (.tup [.one .ptr, .one (.int .i64)])) (.o 23 (.mov (.t 25)) (.o 26 (.ext (.t 23) 0) (.o 27 (.ext (.t 23) 1) (.o 11 (.mov (.t 26)) (.o 12 (.mov (.t 27)) .nil))))))) []) C30_5
def C30_7 : AC := .ret
def C30_8 : AC := .cond (.t 21) (.seq (.reg (.o 22 (.mov (.t 10)) (.o 8 (.mov (.t 22)) .nil)) []) C30_7) .skip
def C30_9 : AC := .seq (.reg (.o 20 (.mov (.t 10)) (.o 21 (.bin .neq (.t 20) (.c (.int .i64 0))) .nil)) []) C30_8
def C30_10 : AC := .seq (.seq (.reg (.o 14 (.mov (.t 0)) (.o 15 (.mov (.t 1)) (.o 16 (.mov (.t 2)) (.o 17 (.call 32 [(.t 14), (.t 15), (.t 16)] (.tup [.one (.int .u64), .one (.int .i64)])) (.o 13 (.mov (.t 17)) (.o 18 (.ext (.t 13) 0) (.o 19 (.ext (.t 13) 1) (.o 9 (.mov (.t 18)) (.o 10 (.mov (.t 19)) .nil))))))))) []) C30_9) C30_6
def C30_11 : AC := .seq (.reg (.o 8 (.mov (.c (.int .i64 0))) .nil) []) C30_10
def F30 : AFunc := { ntmps := 36, results := [.tmp 8], body := C30_11 }
theorem ok30 : okFn Try.prog 30 F30 = true := by kernel_rfl
def C31_1 : AC := .ret
def C31_2 : AC := .seq (.reg (.o 14 (.mov (.t 4)) (.o 15 (.build [.ptr none, .int .i64 0] [(0, 1, (.t 14)), (1, 1, (.c (.int .i64 1)))]) (.o 16 (.box (.t 15)) (.o 2 (.mov (.t 16)) (.o 3 (.mov (.c (.int .i64 0))) .nil))))) []) C31_1
def C31_3 : AC := .ret
def C31_4 : AC := .cond (.t 12) (.seq (.reg (.o 13 (.mov (.t 5)) (.o 2 (.mov (.c (.ptr none))) (.o 3 (.mov (.t 13)) .nil))) []) C31_3) .skip
def C31_5 : AC := .seq (.seq (.reg (.o 11 (.mov (.t 5)) (.o 12 (.bin .neq (.t 11) (.c (.int .i64 0))) .nil)) []) C31_4) C31_2
def C31_6 : AC := .seq (.reg (.o 7 (.mov (.t 0)) (.o 8 (.call 48 [(.t 7), (.c (.int .i64 64)), (.c (.int .i64 64))] (.tup [.one .ptr, .one (.int .i64)])) (.o 6 (.mov (.t 8)) (.o 9 (.ext (.t 6) 0) (.o 10 (.ext (.t 6) 1) (.o 4 (.mov (.t 9)) (.o 5 (.mov (.t 10)) .nil))))))) []) C31_5
def C31_7 : AC := .seq (.reg (.o 2 (.mov (.c (.ptr none))) (.o 3 (.mov (.c (.int .i64 0))) .nil)) []) C31_6
def F31 : AFunc := { ntmps := 17, results := [.tmp 2, .tmp 3], body := C31_7 }
def p31_0 (x0_1a : Ad) (x0_1l : Nat) (x0_1c : Cap) (M : Mem) : Rs := run false call meth F31.results [.code C31_7] (some (.sl x0_1a x0_1l x0_1c) :: nn 16 []) M
theorem p31_0_eq (x0_1a : Ad) (x0_1l : Nat) (x0_1c : Cap) (M : Mem) : p31_0 call meth x0_1a x0_1l x0_1c M = (Option.bind (call 48 [.sl x0_1a x0_1l x0_1c, .int .i64 64, .int .i64 64] M) fun r101 => (Option.bind r101.1.tup? fun l102 => (Option.bind l102.head? fun v103 => (Option.bind (v103.ptr?) fun x104 => (Option.bind l102.tail.head? fun v105 => (Option.bind (v105.int? .i64) fun x106 => (cond l102.tail.tail.isEmpty (cond (x106 != 0) (some (.tup [.ptr none, .int .i64 x106], r101.2)) (let M107 := r101.2.alloc ⟨[.ptr x104, .int .i64 1], .fixed⟩; (some (.tup [.ptr (some (r101.2.n, 0)), .int .i64 0], M107)))) none))))))) :=
  (seg_run false call meth F31.results 100000 [.code C31_7] _ M).symm.trans (by kernel_rfl)
theorem run31 (x0_1a : Ad) (x0_1l : Nat) (x0_1c : Cap) (M : Mem) : run false call meth F31.results [.code F31.body] (frame0 F31 [.sl x0_1a x0_1l x0_1c]) M = p31_0 call meth x0_1a x0_1l x0_1c M := by kernel_rfl
theorem ok31 : okFn Try.prog 31 F31 = true := by kernel_rfl
def C32_1 : AC := .ret
def C32_2 : AC := .seq (.reg (.o 14 (.mov (.t 0)) (.o 15 (.nilCk (.t 14)) (.o 16 (.fldA 1 (.t 15)) (.o 17 (.load1 .ptr (.t 16)) (.o 18 (.nilCk (.t 17)) (.o 19 (.fldA 0 (.t 18)) (.o 20 (.load1 .ptr (.t 19)) (.o 21 (.mov (.t 1)) (.o 22 (.mov (.t 2)) (.o 23 (.call 49 [(.t 20), (.t 21), (.t 22)] (.tup [.one (.int .u64), .one (.int .i64)])) (.o 24 (.ext (.t 23) 0) (.o 25 (.ext (.t 23) 1) (.o 6 (.mov (.t 24)) (.o 7 (.mov (.t 25)) .nil)))))))))))))) []) C32_1
def C32_3 : AC := .ret
def C32_4 : AC := .cond (.t 12) (.seq (.reg (.o 13 (.mov (.t 8)) (.o 6 (.mov (.c (.int .u64 0))) (.o 7 (.mov (.t 13)) .nil))) []) C32_3) .skip
def C32_5 : AC := .seq (.reg (.o 11 (.mov (.t 8)) (.o 12 (.bin .neq (.t 11) (.c (.int .i64 0))) .nil)) []) C32_4
def C32_6 : AC := .seq (.seq (.reg (.o 9 (.mov (.t 0)) (.o 10 (.call 37 [(.t 9)] (.r (.one (.int .i64)))) (.o 8 (.mov (.t 10)) .nil))) []) C32_5) C32_2
def C32_7 : AC := .seq (.reg (.o 6 (.mov (.c (.int .u64 0))) (.o 7 (.mov (.c (.int .i64 0))) .nil)) []) C32_6
def F32 : AFunc := { ntmps := 26, results := [.tmp 6, .tmp 7], body := C32_7 }
def p32_0 (x0_1 : Ad) (x1_2 : Int) (x2_3 : Int) (M : Mem) : Rs := run false call meth F32.results [.code C32_7] (some (.ptr x0_1) :: some (.int .i64 x1_2) :: some (.int .i64 x2_3) :: nn 23 []) M
theorem p32_0_eq (x0_1 : Ad) (x1_2 : Int) (x2_3 : Int) (M : Mem) : p32_0 call meth x0_1 x1_2 x2_3 M = (Option.bind (call 37 [.ptr x0_1] M) fun r101 => (Option.bind (r101.1.int? .i64) fun x102 => (cond (x102 != 0) (some (.tup [.int .u64 0, .int .i64 x102], r101.2)) (Option.bind x0_1 fun p103 => (Option.bind (r101.2.ldP p103.1 (p103.2 + 1)) fun x104 => (Option.bind x104 fun p105 => (Option.bind (r101.2.ldP p105.1 (p105.2 + 0)) fun x106 => (Option.bind (call 49 [.ptr x106, .int .i64 x1_2, .int .i64 x2_3] r101.2) fun r107 => (Option.bind r107.1.tup? fun l108 => (Option.bind l108.head? fun v109 => (Option.bind (v109.int? .u64) fun x110 => (Option.bind l108.tail.head? fun v111 => (Option.bind (v111.int? .i64) fun x112 => (cond l108.tail.tail.isEmpty (some (.tup [.int .u64 x110, .int .i64 x112], r107.2)) none)))))))))))))) :=
  (seg_run false call meth F32.results 100000 [.code C32_7] _ M).symm.trans (by kernel_rfl)
theorem run32 (x0_1 : Ad) (x1_2 : Int) (x2_3 : Int) (M : Mem) : run false call meth F32.results [.code F32.body] (frame0 F32 [.ptr x0_1, .int .i64 x1_2, .int .i64 x2_3]) M = p32_0 call meth x0_1 x1_2 x2_3 M := by kernel_rfl
theorem ok32 : okFn Try.prog 32 F32 = true := by kernel_rfl
def C33_1 : AC := .ret
def C33_2 : AC := .seq (.reg (.o 6 (.mov (.t 0)) (.o 7 (.nilCk (.t 6)) (.o 8 (.fldA 1 (.t 7)) (.o 9 (.load1 .ptr (.t 8)) (.o 10 (.nilCk (.t 9)) (.o 11 (.fldA 0 (.t 10)) (.o 12 (.load1 .ptr (.t 11)) (.o 13 (.call 50 [(.t 12)] (.r (.one (.int .i64)))) (.o 2 (.mov (.t 13)) .nil))))))))) []) C33_1
def C33_3 : AC := .ret
def C33_4 : AC := .cond (.t 5) (.seq (.reg (.o 2 (.mov (.c (.int .i64 0))) .nil) []) C33_3) .skip
def C33_5 : AC := .seq (.seq (.reg (.o 3 (.mov (.t 0)) (.o 4 (.call 37 [(.t 3)] (.r (.one (.int .i64)))) (.o 5 (.bin .neq (.t 4) (.c (.int .i64 0))) .nil))) []) C33_4) C33_2
def C33_6 : AC := .seq (.reg (.o 2 (.mov (.c (.int .i64 0))) .nil) []) C33_5
def F33 : AFunc := { ntmps := 14, results := [.tmp 2], body := C33_6 }
def p33_0 (x0_1 : Ad) (M : Mem) : Rs := run false call meth F33.results [.code C33_6] (some (.ptr x0_1) :: nn 13 []) M
theorem p33_0_eq (x0_1 : Ad) (M : Mem) : p33_0 call meth x0_1 M = (Option.bind (call 37 [.ptr x0_1] M) fun r101 => (Option.bind (r101.1.int? .i64) fun x102 => (cond (x102 != 0) (some (.int .i64 0, r101.2)) (Option.bind x0_1 fun p103 => (Option.bind (r101.2.ldP p103.1 (p103.2 + 1)) fun x104 => (Option.bind x104 fun p105 => (Option.bind (r101.2.ldP p105.1 (p105.2 + 0)) fun x106 => (Option.bind (call 50 [.ptr x106] r101.2) fun r107 => (Option.bind (r107.1.int? .i64) fun x108 => (some (.int .i64 x108, r107.2))))))))))) :=
  (seg_run false call meth F33.results 100000 [.code C33_6] _ M).symm.trans (by kernel_rfl)
theorem run33 (x0_1 : Ad) (M : Mem) : run false call meth F33.results [.code F33.body] (frame0 F33 [.ptr x0_1]) M = p33_0 call meth x0_1 M := by kernel_rfl
theorem ok33 : okFn Try.prog 33 F33 = true := by kernel_rfl
def C34_1 : AC := .ret
def C34_2 : AC := .seq (.reg (.o 49 (.mov (.t 0)) (.o 50 (.nilCk (.t 49)) (.o 51 (.fldA 1 (.t 50)) (.o 52 (.load1 .ptr (.t 51)) (.o 53 (.nilCk (.t 52)) (.o 54 (.fldA 0 (.t 53)) (.o 55 (.load1 .ptr (.t 54)) (.o 2 (.mov (.t 55)) (.o 3 (.mov (.c (.int .i64 0))) .nil))))))))) []) C34_1
def C34_3 : AC := .kil (rg 1 55 []) (.pt C34_2)
def C34_4 : AC := .reg (.o 45 (.mov (.t 0)) (.o 46 (.mov (.t 5)) (.o 47 (.nilCk (.t 45)) (.o 48 (.fldA 1 (.t 47)) (.op none (.store 1 (.t 48) (.t 46)) .nil))))) []
def C34_5 : AC := .seq (.reg (.o 35 (.mov (.t 0)) (.o 36 (.nilCk (.t 35)) (.o 37 (.fldA 1 (.t 36)) (.o 38 (.load1 .ptr (.t 37)) (.o 39 (.nilCk (.t 38)) (.o 40 (.fldA 1 (.t 39)) (.o 41 (.load1 (.int .i64) (.t 40)) (.o 42 (.bin .sub (.t 41) (.c (.int .i64 1))) (.o 43 (.nilCk (.t 38)) (.o 44 (.fldA 1 (.t 43)) (.op none (.store 1 (.t 44) (.t 42)) .nil))))))))))) []) C34_4
def C34_6 : AC := .ret
def C34_7 : AC := .cond (.t 33) (.seq (.reg (.o 34 (.mov (.t 6)) (.o 2 (.mov (.c (.ptr none))) (.o 3 (.mov (.t 34)) .nil))) []) C34_6) .skip
def C34_8 : AC := .seq (.seq (.reg (.o 32 (.mov (.t 6)) (.o 33 (.bin .neq (.t 32) (.c (.int .i64 0))) .nil)) []) C34_7) C34_5
def C34_9 : AC := .seq (.reg (.o 21 (.mov (.t 0)) (.o 22 (.nilCk (.t 21)) (.o 23 (.fldA 1 (.t 22)) (.o 24 (.load1 .ptr (.t 23)) (.o 25 (.nilCk (.t 24)) (.o 26 (.fldA 0 (.t 25)) (.o 27 (.load1 .ptr (.t 26)) (.o 28 (.call 36 [(.t 27)] (.r (.one .sl))) (.o 29 (.call 31 [(.t 28)] (.tup [.one .ptr, .one (.int .i64)])) (.o 20 (.mov (.t 29)) (.o 30 (.ext (.t 20) 0) (.o 31 (.ext (.t 20) 1) (.o 5 (.mov (.t 30)) (.o 6 (.mov (.t 31)) .nil)))))))))))))) []) C34_8
def C34_10 : AC := .cond (.t 19) (.kil (rg 1 55 []) (.pt C34_9)) .skip
def C34_11 : AC := .seq (.seq (.reg (.o 12 (.mov (.t 0)) (.o 13 (.nilCk (.t 12)) (.o 14 (.fldA 1 (.t 13)) (.o 15 (.load1 .ptr (.t 14)) (.o 16 (.nilCk (.t 15)) (.o 17 (.fldA 1 (.t 16)) (.o 18 (.load1 (.int .i64) (.t 17)) (.o 19 (.bin .gtr (.t 18) (.c (.int .i64 1))) .nil)))))))) []) C34_10) C34_3
def C34_12 : AC := .ret
def C34_13 : AC := .cond (.t 10) (.seq (.reg (.o 11 (.mov (.t 4)) (.o 2 (.mov (.c (.ptr none))) (.o 3 (.mov (.t 11)) .nil))) []) C34_12) .skip
def C34_14 : AC := .seq (.reg (.o 9 (.mov (.t 4)) (.o 10 (.bin .neq (.t 9) (.c (.int .i64 0))) .nil)) []) C34_13
def C34_15 : AC := .seq (.seq (.reg (.o 7 (.mov (.t 0)) (.o 8 (.call 37 [(.t 7)] (.r (.one (.int .i64)))) (.o 4 (.mov (.t 8)) .nil))) []) C34_14) C34_11
def C34_16 : AC := .seq (.reg (.o 2 (.mov (.c (.ptr none))) (.o 3 (.mov (.c (.int .i64 0))) .nil)) []) C34_15
def F34 : AFunc := { ntmps := 56, results := [.tmp 2, .tmp 3], body := C34_16 }
def p34_0 (x0_1 : Ad) (M : Mem) : Rs := run false call meth F34.results [.code C34_16] (some (.ptr x0_1) :: nn 55 []) M
def p34_1 (x0_107 : Ad) (M : Mem) : Rs := run false call meth F34.results [.code C34_9, .code C34_3] (some (.ptr x0_107) :: nn 55 []) M
def p34_2 (x0_108 : Ad) (M : Mem) : Rs := run false call meth F34.results [.code C34_2] (some (.ptr x0_108) :: nn 55 []) M
theorem p34_0_eq (x0_1 : Ad) (M : Mem) : p34_0 call meth x0_1 M = (Option.bind (call 37 [.ptr x0_1] M) fun r101 => (Option.bind (r101.1.int? .i64) fun x102 => (cond (x102 != 0) (some (.tup [.ptr none, .int .i64 x102], r101.2)) (Option.bind x0_1 fun p103 => (Option.bind (r101.2.ldP p103.1 (p103.2 + 1)) fun x104 => (Option.bind x104 fun p105 => (Option.bind (r101.2.ldI .i64 p105.1 (p105.2 + 1)) fun x106 => (cond (decide (x106 > 1)) (p34_1 call meth x0_1 r101.2) (p34_2 call meth x0_1 r101.2))))))))) :=
  (seg_run false call meth F34.results 100000 [.code C34_16] _ M).symm.trans (by kernel_rfl)
theorem p34_1_eq (x0_107 : Ad) (M : Mem) : p34_1 call meth x0_107 M = (Option.bind x0_107 fun p201 => (Option.bind (M.ldP p201.1 (p201.2 + 1)) fun x202 => (Option.bind x202 fun p203 => (Option.bind (M.ldP p203.1 (p203.2 + 0)) fun x204 => (Option.bind (call 36 [.ptr x204] M) fun r205 => (Option.bind (r205.1.sl?) fun x206 => (Option.bind (call 31 [.sl x206.1 x206.2.1 x206.2.2] r205.2) fun r207 => (Option.bind r207.1.tup? fun l208 => (Option.bind l208.head? fun v209 => (Option.bind (v209.ptr?) fun x210 => (Option.bind l208.tail.head? fun v211 => (Option.bind (v211.int? .i64) fun x212 => (cond l208.tail.tail.isEmpty (cond (x212 != 0) (some (.tup [.ptr none, .int .i64 x212], r207.2)) (Option.bind x0_107 fun p213 => (Option.bind (r207.2.ldP p213.1 (p213.2 + 1)) fun x214 => (Option.bind x214 fun p215 => (Option.bind (r207.2.ldI .i64 p215.1 (p215.2 + 1)) fun x216 => (Option.bind x214 fun p217 => (Option.bind (r207.2.st p217.1 (p217.2 + 1) [.int .i64 (IntKind.wrap .i64 (x216 - 1))]) fun M218 => (Option.bind x0_107 fun p219 => (Option.bind (M218.st p219.1 (p219.2 + 1) [.ptr x210]) fun M220 => (p34_2 call meth x0_107 M220)))))))))) none))))))))))))) :=
  (seg_run false call meth F34.results 100000 [.code C34_9, .code C34_3] _ M).symm.trans (by kernel_rfl)
theorem p34_2_eq (x0_108 : Ad) (M : Mem) : p34_2 call meth x0_108 M = (Option.bind x0_108 fun p301 => (Option.bind (M.ldP p301.1 (p301.2 + 1)) fun x302 => (Option.bind x302 fun p303 => (Option.bind (M.ldP p303.1 (p303.2 + 0)) fun x304 => (some (.tup [.ptr x304, .int .i64 0], M)))))) :=
  (seg_run false call meth F34.results 100000 [.code C34_2] _ M).symm.trans (by kernel_rfl)
theorem run34 (x0_1 : Ad) (M : Mem) : run false call meth F34.results [.code F34.body] (frame0 F34 [.ptr x0_1]) M = p34_0 call meth x0_1 M := by kernel_rfl
theorem ok34 : okFn Try.prog 34 F34 = true := by kernel_rfl
def C36_1 : AC := .ret
def C36_2 : AC := .seq (.drw (.o 5 (.mov (.t 0)) (.o 6 (.nilCk (.t 5)) (.o 7 (.fldA 1 (.t 6)) (.o 8 (.load1 .sl (.t 7)) (.o 9 (.mov (.t 0)) (.o 10 (.nilCk (.t 9)) (.o 11 (.fldA 2 (.t 10)) (.o 12 (.load1 (.int .i64) (.t 11)) (.o 13 (.mov (.t 0)) (.o 14 (.nilCk (.t 13)) (.o 15 (.fldA 3 (.t 14)) (.o 16 (.load1 (.int .i64) (.t 15)) (.o 17 (.mov (.t 0)) (.o 18 (.nilCk (.t 17)) (.o 19 (.fldA 3 (.t 18)) (.o 20 (.load1 (.int .i64) (.t 19)) (.o 21 (.slc 1 (.t 8) (some (.t 12)) (some (.t 16)) (some (.t 20))) (.o 2 (.mov (.t 21)) .nil)))))))))))))))))) [] []) C36_1
def C36_3 : AC := .ret
def C36_4 : AC := .cond (.t 4) (.seq (.reg (.o 2 (.mov (.c (.sl none 0 (.known 0)))) .nil) []) C36_3) .skip
def C36_5 : AC := .seq (.seq (.reg (.o 3 (.mov (.t 0)) (.o 4 (.call 51 [(.t 3)] (.r (.one .bool))) .nil)) []) C36_4) C36_2
def C36_6 : AC := .seq (.reg (.o 2 (.mov (.c (.sl none 0 (.known 0)))) .nil) []) C36_5
def F36 : AFunc := { ntmps := 22, results := [.tmp 2], body := C36_6 }
def p36_0 (x0_1 : Ad) (M : Mem) : Rs := run false call meth F36.results [.code C36_6] (some (.ptr x0_1) :: nn 21 []) M
theorem p36_0_eq (x0_1 : Ad) (M : Mem) : p36_0 call meth x0_1 M = (Option.bind (call 51 [.ptr x0_1] M) fun r101 => (Option.bind (r101.1.bool?) fun x102 => (cond x102 (some (.sl none 0 (.known 0), r101.2)) (Option.bind x0_1 fun p103 => (Option.bind (r101.2.ldL p103.1 (p103.2 + 1)) fun x104 => (Option.bind x0_1 fun p105 => (Option.bind (r101.2.ldI .i64 p105.1 (p105.2 + 2)) fun x106 => (Option.bind x0_1 fun p107 => (Option.bind (r101.2.ldI .i64 p107.1 (p107.2 + 3)) fun x108 => (Option.bind x0_1 fun p109 => (Option.bind (r101.2.ldI .i64 p109.1 (p109.2 + 3)) fun x110 => (slcK false 1 x104.1 x104.2.1 x104.2.2 r101.2 (some (.int .i64 x106)) (some (.int .i64 x108)) (some (.int .i64 x110)) fun s111a s111l s111c => (some (.sl s111a s111l s111c, r101.2)))))))))))))) :=
  (seg_run false call meth F36.results 100000 [.code C36_6] _ M).symm.trans (by kernel_rfl)
theorem run36 (x0_1 : Ad) (M : Mem) : run false call meth F36.results [.code F36.body] (frame0 F36 [.ptr x0_1]) M = p36_0 call meth x0_1 M := by kernel_rfl
theorem ok36 : okFn Try.prog 36 F36 = true := by kernel_rfl
def C37_1 : AC := .ret
def C37_2 : AC := .seq (.reg (.o 2 (.mov (.c (.int .i64 0))) .nil) []) C37_1
def C37_3 : AC := .ret
def C37_4 : AC := .ret
def C37_5 : AC := .cond (.t 13) (.seq (.reg (.o 2 (.mov (.c (.int .i64 40))) .nil) []) C37_4) .skip
def C37_6 : AC := .cond (.t 3) (.seq (.reg (.o 2 (.mov (.c (.int .i64 1))) .nil) []) C37_3) (.seq (.reg (.o 14 (.mov (.t 0)) (.o 15 (.nilCk (.t 14)) (.o 16 (.fldA 1 (.t 15)) (.o 17 (.load1 .ptr (.t 16)) (.o 18 (.eq false .ptr (.t 17) (.c (.ptr none))) (.o 13 (.mov (.t 18)) .nil)))))) []) C37_5)
def C37_7 : AC := .seq (.block 0 (.seq (.reg (.o 4 (.mov (.t 0)) (.o 5 (.eq false .ptr (.t 4) (.c (.ptr none))) (.o 6 (.mov (.t 5)) (.grp 6 false (.o 7 (.mov (.t 0)) (.o 8 (.nilCk (.t 7)) (.o 9 (.fldA 0 (.t 8)) (.o 10 (.load1 .bool (.t 9)) (.o 11 (.not (.t 10)) .nil))))) (.o 12 (.pick (.t 6) (.c (.bool true)) (.t 11)) (.o 3 (.mov (.t 12)) .nil)))))) []) C37_6)) C37_2
def C37_8 : AC := .seq (.reg (.o 2 (.mov (.c (.int .i64 0))) .nil) []) C37_7
def F37 : AFunc := { ntmps := 19, results := [.tmp 2], body := C37_8 }
def p37_0 (x0_1 : Ad) (M : Mem) : Rs := run false call meth F37.results [.code C37_8] (some (.ptr x0_1) :: nn 18 []) M
theorem p37_0_eq (x0_1 : Ad) (M : Mem) : p37_0 call meth x0_1 M = (cond x0_1.isNone (some (.int .i64 1, M)) (Option.bind x0_1 fun p101 => (Option.bind (M.ldB p101.1 (p101.2 + 0)) fun x102 => (cond (!x102) (some (.int .i64 1, M)) (Option.bind x0_1 fun p103 => (Option.bind (M.ldP p103.1 (p103.2 + 1)) fun x104 => (cond x104.isNone (some (.int .i64 40, M)) (some (.int .i64 0, M))))))))) :=
  (seg_run false call meth F37.results 100000 [.code C37_8] _ M).symm.trans (by kernel_rfl)
theorem run37 (x0_1 : Ad) (M : Mem) : run false call meth F37.results [.code F37.body] (frame0 F37 [.ptr x0_1]) M = p37_0 call meth x0_1 M := by kernel_rfl
theorem ok37 : okFn Try.prog 37 F37 = true := by kernel_rfl
def C38_1 : AC := .ret
def C38_2 : AC := .seq (.reg (.o 3 (.mov (.t 0)) (.o 4 (.call 36 [(.t 3)] (.r (.one .sl))) (.o 5 (.call 40 [(.t 4)] (.r (.one .sl))) (.o 2 (.mov (.t 5)) .nil)))) []) C38_1
def C38_3 : AC := .seq (.reg (.o 2 (.mov (.c (.sl none 0 (.known 0)))) .nil) []) C38_2
def F38 : AFunc := { ntmps := 6, results := [.tmp 2], body := C38_3 }
def p38_0 (x0_1 : Ad) (M : Mem) : Rs := run false call meth F38.results [.code C38_3] (some (.ptr x0_1) :: nn 5 []) M
theorem p38_0_eq (x0_1 : Ad) (M : Mem) : p38_0 call meth x0_1 M = (Option.bind (call 36 [.ptr x0_1] M) fun r101 => (Option.bind (r101.1.sl?) fun x102 => (Option.bind (call 40 [.sl x102.1 x102.2.1 x102.2.2] r101.2) fun r103 => (Option.bind (r103.1.sl?) fun x104 => (some (.sl x104.1 x104.2.1 x104.2.2, r103.2)))))) :=
  (seg_run false call meth F38.results 100000 [.code C38_3] _ M).symm.trans (by kernel_rfl)
theorem run38 (x0_1 : Ad) (M : Mem) : run false call meth F38.results [.code F38.body] (frame0 F38 [.ptr x0_1]) M = p38_0 call meth x0_1 M := by kernel_rfl
theorem ok38 : okFn Try.prog 38 F38 = true := by kernel_rfl
def C39_1 : AC := .ret
def C39_2 : AC := .seq (.reg (.o 3 (.mov (.t 0)) (.o 4 (.mov (.t 0)) (.o 5 (.len (.t 4)) (.o 6 (.mov (.t 0)) (.o 7 (.len (.t 6)) (.o 8 (.slc 1 (.t 3) none (some (.t 5)) (some (.t 7))) (.o 2 (.mov (.t 8)) .nil))))))) []) C39_1
def C39_3 : AC := .seq (.reg (.o 2 (.mov (.c (.sl none 0 (.known 0)))) .nil) []) C39_2
def F39 : AFunc := { ntmps := 9, results := [.tmp 2], body := C39_3 }
def p39_0 (x0_1a : Ad) (x0_1l : Nat) (x0_1c : Cap) (M : Mem) : Rs := run false call meth F39.results [.code C39_3] (some (.sl x0_1a x0_1l x0_1c) :: nn 8 []) M
theorem p39_0_eq (x0_1a : Ad) (x0_1l : Nat) (x0_1c : Cap) (M : Mem) : p39_0 call meth x0_1a x0_1l x0_1c M = (slcK false 1 x0_1a x0_1l x0_1c M none (some (.int .i64 ((x0_1l : Nat) : Int))) (some (.int .i64 ((x0_1l : Nat) : Int))) fun s101a s101l s101c => (some (.sl s101a s101l s101c, M))) :=
  (seg_run false call meth F39.results 100000 [.code C39_3] _ M).symm.trans (by kernel_rfl)
theorem run39 (x0_1a : Ad) (x0_1l : Nat) (x0_1c : Cap) (M : Mem) : run false call meth F39.results [.code F39.body] (frame0 F39 [.sl x0_1a x0_1l x0_1c]) M = p39_0 call meth x0_1a x0_1l x0_1c M := by kernel_rfl
theorem ok39 : okFn Try.prog 39 F39 = true := by kernel_rfl
def C40_1 : AC := .ret
def C40_2 : AC := .seq (.reg (.o 5 (.bslice [] [] 0) (.o 6 (.mov (.t 0)) (.o 7 (.app 1 1 (.t 5) (.t 6)) (.o 2 (.mov (.t 7)) .nil)))) []) C40_1
def C40_3 : AC := .ret
def C40_4 : AC := .cond (.t 4) (.seq (.reg (.o 2 (.mov (.c (.sl none 0 (.known 0)))) .nil) []) C40_3) .skip
def C40_5 : AC := .seq (.seq (.reg (.o 3 (.mov (.t 0)) (.o 4 (.eq false .sl (.t 3) (.c (.sl none 0 (.known 0)))) .nil)) []) C40_4) C40_2
def C40_6 : AC := .seq (.reg (.o 2 (.mov (.c (.sl none 0 (.known 0)))) .nil) []) C40_5
def F40 : AFunc := { ntmps := 8, results := [.tmp 2], body := C40_6 }
def p40_0 (x0_1a : Ad) (x0_1l : Nat) (x0_1c : Cap) (M : Mem) : Rs := run false call meth F40.results [.code C40_6] (some (.sl x0_1a x0_1l x0_1c) :: nn 7 []) M
theorem p40_0_eq (x0_1a : Ad) (x0_1l : Nat) (x0_1c : Cap) (M : Mem) : p40_0 call meth x0_1a x0_1l x0_1c M = (cond x0_1a.isNone (some (.sl none 0 (.known 0), M)) (let M101 := M.alloc ⟨[], .fixed⟩; (appK false 1 1 M101 (some (M.n, 0)) 0 (.known 0) (.sl x0_1a x0_1l x0_1c) fun s102a s102l s102c M103 => (some (.sl s102a s102l s102c, M103))))) :=
  (seg_run false call meth F40.results 100000 [.code C40_6] _ M).symm.trans (by kernel_rfl)
theorem run40 (x0_1a : Ad) (x0_1l : Nat) (x0_1c : Cap) (M : Mem) : run false call meth F40.results [.code F40.body] (frame0 F40 [.sl x0_1a x0_1l x0_1c]) M = p40_0 call meth x0_1a x0_1l x0_1c M := by kernel_rfl
theorem ok40 : okFn Try.prog 40 F40 = true := by kernel_rfl
def C43_1 : AC := .ret
def C43_2 : AC := .seq (.reg (.o 25 (.mov (.t 0)) (.o 26 (.call 16 [(.t 25)] (.r (.one .sl))) (.o 27 (.mov (.t 1)) (.o 28 (.mov (.t 2)) (.o 29 (.build [.sl none 0 (.known 0), .int .i64 0, .int .i64 0, .int .i64 0] [(0, 1, (.t 26)), (1, 1, (.t 27)), (2, 1, (.t 28))]) (.o 30 (.box (.t 29)) (.o 6 (.mov (.t 30)) (.o 7 (.mov (.c (.int .i64 0))) .nil)))))))) []) C43_1
def C43_3 : AC := .kil (rg 3 28 []) (.pt C43_2)
def C43_4 : AC := .ret
def C43_5 : AC := .cond (.t 24) (.seq (.reg (.o 6 (.mov (.c (.ptr none))) (.o 7 (.mov (.c (.int .i64 2))) .nil)) []) C43_4) .skip
def C43_6 : AC := .seq (.seq (.reg (.o 11 (.mov (.t 1)) (.o 12 (.bin .lss (.t 11) (.c (.int .i64 0))) (.o 13 (.mov (.t 12)) (.grp 13 false (.o 14 (.mov (.t 1)) (.o 15 (.bin .gtr (.t 14) (.c (.int .i64 256))) .nil)) (.o 16 (.pick (.t 13) (.c (.bool true)) (.t 15)) (.o 17 (.mov (.t 16)) (.grp 17 false (.o 18 (.mov (.t 2)) (.o 19 (.bin .lss (.t 18) (.c (.int .i64 0))) .nil)) (.o 20 (.pick (.t 17) (.c (.bool true)) (.t 19)) (.o 21 (.mov (.t 20)) (.grp 21 false (.o 22 (.mov (.t 2)) (.o 23 (.bin .gtr (.t 22) (.c (.int .i64 256))) .nil)) (.o 24 (.pick (.t 21) (.c (.bool true)) (.t 23)) .nil))))))))))) []) C43_5) C43_3
def C43_7 : AC := .ret
def C43_8 : AC := .cond (.t 10) (.seq (.reg (.o 6 (.mov (.c (.ptr none))) (.o 7 (.mov (.c (.int .i64 5))) .nil)) []) C43_7) .skip
def C43_9 : AC := .seq (.seq (.reg (.o 8 (.mov (.t 0)) (.o 9 (.len (.t 8)) (.o 10 (.bin .gtr (.t 9) (.c (.int .i64 2048))) .nil))) []) C43_8) C43_6
def C43_10 : AC := .seq (.reg (.o 6 (.mov (.c (.ptr none))) (.o 7 (.mov (.c (.int .i64 0))) .nil)) []) C43_9
def F43 : AFunc := { ntmps := 31, results := [.tmp 6, .tmp 7], body := C43_10 }
theorem ok43 : okFn Try.prog 43 F43 = true := by kernel_rfl
def C44_1 : AC := .ret
def C44_2 : AC := .seq (.reg (.o 7 (.mov (.t 0)) (.o 8 (.nilCk (.t 7)) (.o 9 (.fldA 0 (.t 8)) (.o 10 (.load1 .ptr (.t 9)) (.o 11 (.nilCk (.t 10)) (.o 12 (.fldA 0 (.t 11)) (.o 13 (.load1 .ptr (.t 12)) (.o 14 (.call 53 [(.t 13)] (.r (.one (.int .i64)))) (.o 2 (.mov (.t 14)) .nil))))))))) []) C44_1
def C44_3 : AC := .ret
def C44_4 : AC := .cond (.t 6) (.seq (.reg (.o 2 (.mov (.c (.int .i64 0))) .nil) []) C44_3) .skip
def C44_5 : AC := .seq (.seq (.reg (.o 3 (.mov (.t 0)) (.o 4 (.nilCk (.t 3)) (.o 5 (.fldA 1 (.t 4)) (.o 6 (.load1 .bool (.t 5)) .nil)))) []) C44_4) C44_2
def C44_6 : AC := .seq (.reg (.o 2 (.mov (.c (.int .i64 0))) .nil) []) C44_5
def F44 : AFunc := { ntmps := 15, results := [.tmp 2], body := C44_6 }
theorem ok44 : okFn Try.prog 44 F44 = true := by kernel_rfl
def C45_1 : AC := .ret
def C45_2 : AC := .seq (.reg (.o 10 (.mov (.t 0)) (.o 11 (.nilCk (.t 10)) (.o 12 (.fldA 0 (.t 11)) (.o 13 (.load1 .ptr (.t 12)) (.o 14 (.nilCk (.t 13)) (.o 15 (.fldA 0 (.t 14)) (.o 16 (.load1 .ptr (.t 15)) (.o 2 (.mov (.t 16)) (.o 3 (.mov (.c (.int .i64 0))) .nil))))))))) []) C45_1
def C45_3 : AC := .seq (.reg (.o 8 (.mov (.t 0)) (.o 9 (.call 54 [(.t 8)] (.tup [])) .nil)) []) C45_2
def C45_4 : AC := .ret
def C45_5 : AC := .cond (.t 7) (.seq (.reg (.o 2 (.mov (.c (.ptr none))) (.o 3 (.mov (.c (.int .i64 40))) .nil)) []) C45_4) .skip
def C45_6 : AC := .seq (.seq (.reg (.o 4 (.mov (.t 0)) (.o 5 (.nilCk (.t 4)) (.o 6 (.fldA 1 (.t 5)) (.o 7 (.load1 .bool (.t 6)) .nil)))) []) C45_5) C45_3
def C45_7 : AC := .seq (.reg (.o 2 (.mov (.c (.ptr none))) (.o 3 (.mov (.c (.int .i64 0))) .nil)) []) C45_6
def F45 : AFunc := { ntmps := 17, results := [.tmp 2, .tmp 3], body := C45_7 }
theorem ok45 : okFn Try.prog 45 F45 = true := by kernel_rfl
def C46_1 : AC := .ret
def C46_2 : AC := .seq (.reg (.o 3 (.mov (.t 0)) (.o 4 (.nilCk (.t 3)) (.o 5 (.fldA 0 (.t 4)) (.o 6 (.load1 .sl (.t 5)) (.o 7 (.call 16 [(.t 6)] (.r (.one .sl))) (.o 2 (.mov (.t 7)) .nil)))))) []) C46_1
def C46_3 : AC := .seq (.reg (.o 2 (.mov (.c (.sl none 0 (.known 0)))) .nil) []) C46_2
def F46 : AFunc := { ntmps := 8, results := [.tmp 2], body := C46_3 }
theorem ok46 : okFn Try.prog 46 F46 = true := by kernel_rfl
def C47_1 : AC := .ret
def C47_2 : AC := .seq (.reg (.o 8 (.mov (.c (.int .i64 0))) .nil) []) C47_1
def C47_3 : AC := .reg (.o 42 (.bin .add (.t 28) (.c (.int .i64 1))) (.o 28 (.mov (.t 42)) .nil)) []
def C47_4 : AC := .reg (.o 31 (.mov (.t 10)) (.o 32 (.mov (.t 11)) (.o 33 (.mov (.t 3)) (.o 34 (.mov (.t 2)) (.o 35 (.bin .sub (.t 34) (.c (.int .i64 1))) (.o 36 (.mov (.t 11)) (.o 37 (.bin .sub (.t 35) (.t 36)) (.o 38 (.bin .mul (.c (.int .i64 8)) (.t 37)) (.o 39 (.shift .shr (.t 33) (.t 38)) (.o 40 (.convI .u8 (.t 39)) (.o 41 (.ixS 1 (.t 31) (.t 32)) (.op none (.store 1 (.t 41) (.t 40)) .nil)))))))))))) []
def C47_5 : AC := .seq (.block 1 (.seq (.reg (.o 30 (.mov (.t 28)) (.o 11 (.mov (.t 30)) .nil)) []) C47_4)) C47_3
def C47_6 : AC := .seq (.cond (.t 29) .skip (.exit 0)) C47_5
def C47_7 : AC := .seq (.reg (.o 29 (.bin .lss (.t 28) (.t 27)) .nil) []) C47_6
def C47_8 : AC := .kil (0 :: 1 :: rg 4 6 (rg 11 16 (rg 29 14 []))) (.pt C47_7)
def C47_9 : AC := .block 0 (.loop C47_8)
def C47_10 : AC := .seq (.seq (.reg (.o 26 (.mov (.t 10)) (.o 27 (.len (.t 26)) (.o 28 (.mov (.c (.int .i64 0))) .nil))) []) C47_9) C47_2
def C47_11 : AC := .seq (.reg (.o 19 (.mov (.t 0)) (.o 20 (.call 36 [(.t 19)] (.r (.one .sl))) (.o 21 (.mov (.t 1)) (.o 22 (.mov (.t 1)) (.o 23 (.mov (.t 2)) (.o 24 (.bin .add (.t 22) (.t 23)) (.o 25 (.slc 1 (.t 20) (some (.t 21)) (some (.t 24)) none) (.o 10 (.mov (.t 25)) .nil)))))))) []) C47_10
def C47_12 : AC := .ret
def C47_13 : AC := .cond (.t 17) (.seq (.reg (.o 18 (.mov (.t 9)) (.o 8 (.mov (.t 18)) .nil)) []) C47_12) .skip
def C47_14 : AC := .seq (.reg (.o 16 (.mov (.t 9)) (.o 17 (.bin .neq (.t 16) (.c (.int .i64 0))) .nil)) []) C47_13
def C47_15 : AC := .seq (.seq (.reg (.o 12 (.mov (.t 0)) (.o 13 (.mov (.t 1)) (.o 14 (.mov (.t 2)) (.o 15 (.call 55 [(.t 12), (.t 13), (.t 14)] (.r (.one (.int .i64)))) (.o 9 (.mov (.t 15)) .nil))))) []) C47_14) C47_11
def C47_16 : AC := .seq (.reg (.o 8 (.mov (.c (.int .i64 0))) .nil) []) C47_15
def F47 : AFunc := { ntmps := 43, results := [.tmp 8], body := C47_16 }
theorem ok47 : okFn Try.prog 47 F47 = true := by kernel_rfl
def C48_1 : AC := .ret
def C48_2 : AC := .seq (.reg (.o 35 (.mov (.t 8)) (.o 6 (.mov (.t 35)) (.o 7 (.mov (.c (.int .i64 0))) .nil))) []) C48_1
def C48_3 : AC := .seq (.reg (.o 30 (.mov (.t 8)) (.o 31 (.mov (.t 0)) (.o 32 (.mov (.t 1)) (.o 33 (.mov (.t 2)) (.o 34 (.call 56 [(.t 30), (.t 31), (.t 32), (.c (.int .i64 0)), (.c (.int .i64 0)), (.t 33)] (.tup [])) .nil))))) []) C48_2
def C48_4 : AC := .seq (.reg (.o 28 (.build [.bool false, .sl none 0 (.known 0), .int .i64 0, .int .i64 0, .int .i64 0] [(0, 1, (.c (.bool true)))]) (.o 29 (.box (.t 28)) (.o 8 (.mov (.t 29)) .nil))) []) C48_3
def C48_5 : AC := .kil (rg 3 33 []) (.pt C48_4)
def C48_6 : AC := .ret
def C48_7 : AC := .ret
def C48_8 : AC := .cond (.t 13) (.seq (.reg (.o 6 (.mov (.c (.ptr none))) (.o 7 (.mov (.c (.int .i64 2))) .nil)) []) C48_7) .skip
def C48_9 : AC := .cond (.t 9) (.seq (.reg (.o 6 (.mov (.c (.ptr none))) (.o 7 (.mov (.c (.int .i64 5))) .nil)) []) C48_6) (.seq (.reg (.o 14 (.mov (.t 1)) (.o 15 (.bin .lss (.t 14) (.c (.int .i64 0))) (.o 16 (.mov (.t 15)) (.grp 16 false (.o 17 (.mov (.t 1)) (.o 18 (.bin .gtr (.t 17) (.c (.int .i64 256))) .nil)) (.o 19 (.pick (.t 16) (.c (.bool true)) (.t 18)) (.o 20 (.mov (.t 19)) (.grp 20 false (.o 21 (.mov (.t 2)) (.o 22 (.bin .lss (.t 21) (.c (.int .i64 0))) .nil)) (.o 23 (.pick (.t 20) (.c (.bool true)) (.t 22)) (.o 24 (.mov (.t 23)) (.grp 24 false (.o 25 (.mov (.t 2)) (.o 26 (.bin .gtr (.t 25) (.c (.int .i64 256))) .nil)) (.o 27 (.pick (.t 24) (.c (.bool true)) (.t 26)) (.o 13 (.mov (.t 27)) .nil)))))))))))) []) C48_8)
def C48_10 : AC := .seq (.block 0 (.seq (.reg (.o 10 (.mov (.t 0)) (.o 11 (.len (.t 10)) (.o 12 (.bin .gtr (.t 11) (.c (.int .i64 2048))) (.o 9 (.mov (.t 12)) .nil)))) []) C48_9)) C48_5
def C48_11 : AC := .seq (.reg (.o 6 (.mov (.c (.ptr none))) (.o 7 (.mov (.c (.int .i64 0))) .nil)) []) C48_10
def F48 : AFunc := { ntmps := 36, results := [.tmp 6, .tmp 7], body := C48_11 }
def p48_0 (x0_1a : Ad) (x0_1l : Nat) (x0_1c : Cap) (x1_2 : Int) (x2_3 : Int) (M : Mem) : Rs := run false call meth F48.results [.code C48_11] (some (.sl x0_1a x0_1l x0_1c) :: some (.int .i64 x1_2) :: some (.int .i64 x2_3) :: nn 33 []) M
def p48_1 (x0_101a : Ad) (x0_101l : Nat) (x0_101c : Cap) (x1_102 : Int) (x2_103 : Int) (M : Mem) : Rs := run false call meth F48.results [.code C48_4] (some (.sl x0_101a x0_101l x0_101c) :: some (.int .i64 x1_102) :: some (.int .i64 x2_103) :: nn 33 []) M
theorem p48_0_eq (x0_1a : Ad) (x0_1l : Nat) (x0_1c : Cap) (x1_2 : Int) (x2_3 : Int) (M : Mem) : p48_0 call meth x0_1a x0_1l x0_1c x1_2 x2_3 M = (cond (decide (((x0_1l : Nat) : Int) > 2048)) (some (.tup [.ptr none, .int .i64 5], M)) (cond (decide (x1_2 < 0)) (some (.tup [.ptr none, .int .i64 2], M)) (cond (decide (x1_2 > 256)) (some (.tup [.ptr none, .int .i64 2], M)) (cond (decide (x2_3 < 0)) (some (.tup [.ptr none, .int .i64 2], M)) (cond (decide (x2_3 > 256)) (some (.tup [.ptr none, .int .i64 2], M)) (p48_1 call meth x0_1a x0_1l x0_1c x1_2 x2_3 M)))))) :=
  (seg_run false call meth F48.results 100000 [.code C48_11] _ M).symm.trans (by kernel_rfl)
theorem p48_1_eq (x0_101a : Ad) (x0_101l : Nat) (x0_101c : Cap) (x1_102 : Int) (x2_103 : Int) (M : Mem) : p48_1 call meth x0_101a x0_101l x0_101c x1_102 x2_103 M = (let M201 := M.alloc ⟨[.bool true, .sl none 0 (.known 0), .int .i64 0, .int .i64 0, .int .i64 0], .fixed⟩; (Option.bind (call 56 [.ptr (some (M.n, 0)), .sl x0_101a x0_101l x0_101c, .int .i64 x1_102, .int .i64 0, .int .i64 0, .int .i64 x2_103] M201) fun r202 => (Option.bind r202.1.tup? fun l203 => (cond l203.isEmpty (some (.tup [.ptr (some (M.n, 0)), .int .i64 0], r202.2)) none)))) :=
  (seg_run false call meth F48.results 100000 [.code C48_4] _ M).symm.trans (by kernel_rfl)
theorem run48 (x0_1a : Ad) (x0_1l : Nat) (x0_1c : Cap) (x1_2 : Int) (x2_3 : Int) (M : Mem) : run false call meth F48.results [.code F48.body] (frame0 F48 [.sl x0_1a x0_1l x0_1c, .int .i64 x1_2, .int .i64 x2_3]) M = p48_0 call meth x0_1a x0_1l x0_1c x1_2 x2_3 M := by kernel_rfl
theorem ok48 : okFn Try.prog 48 F48 = true := by kernel_rfl
def C49_1 : AC := .ret
def C49_2 : AC := .seq (.reg (.o 37 (.mov (.t 9)) (.o 6 (.mov (.t 37)) (.o 7 (.mov (.c (.int .i64 0))) .nil))) []) C49_1
def C49_3 : AC := .reg (.o 36 (.bin .add (.t 27) (.c (.int .i64 1))) (.o 27 (.mov (.t 36)) .nil)) []
def C49_4 : AC := .reg (.o 31 (.mov (.t 9)) (.o 32 (.shift .shl (.t 31) (.c (.int .u64 8))) (.o 33 (.mov (.t 11)) (.o 34 (.convI .u64 (.t 33)) (.o 35 (.bin .or (.t 32) (.t 34)) (.o 9 (.mov (.t 35)) .nil)))))) []
def C49_5 : AC := .seq (.block 1 (.seq (.reg (.o 29 (.ixS 1 (.t 25) (.t 27)) (.o 30 (.load1 (.int .u8) (.t 29)) (.o 11 (.mov (.t 30)) .nil))) []) C49_4)) C49_3
def C49_6 : AC := .seq (.cond (.t 28) .skip (.exit 0)) C49_5
def C49_7 : AC := .seq (.reg (.o 28 (.bin .lss (.t 27) (.t 26)) .nil) []) C49_6
def C49_8 : AC := .kil (rg 0 9 (rg 10 15 (rg 28 10 []))) (.pt C49_7)
def C49_9 : AC := .block 0 (.loop C49_8)
def C49_10 : AC := .seq (.seq (.reg (.o 19 (.mov (.t 0)) (.o 20 (.call 36 [(.t 19)] (.r (.one .sl))) (.o 21 (.mov (.t 1)) (.o 22 (.mov (.t 1)) (.o 23 (.mov (.t 2)) (.o 24 (.bin .add (.t 22) (.t 23)) (.o 25 (.slc 1 (.t 20) (some (.t 21)) (some (.t 24)) none) (.o 26 (.len (.t 25)) (.o 27 (.mov (.c (.int .i64 0))) .nil))))))))) []) C49_9) C49_2
def C49_11 : AC := .seq (.reg (.o 9 (.mov (.c (.int .u64 0))) .nil) []) C49_10
def C49_12 : AC := .ret
def C49_13 : AC := .cond (.t 17) (.seq (.reg (.o 18 (.mov (.t 8)) (.o 6 (.mov (.c (.int .u64 0))) (.o 7 (.mov (.t 18)) .nil))) []) C49_12) .skip
def C49_14 : AC := .seq (.reg (.o 16 (.mov (.t 8)) (.o 17 (.bin .neq (.t 16) (.c (.int .i64 0))) .nil)) []) C49_13
def C49_15 : AC := .seq (.seq (.reg (.o 12 (.mov (.t 0)) (.o 13 (.mov (.t 1)) (.o 14 (.mov (.t 2)) (.o 15 (.call 55 [(.t 12), (.t 13), (.t 14)] (.r (.one (.int .i64)))) (.o 8 (.mov (.t 15)) .nil))))) []) C49_14) C49_11
def C49_16 : AC := .seq (.reg (.o 6 (.mov (.c (.int .u64 0))) (.o 7 (.mov (.c (.int .i64 0))) .nil)) []) C49_15
def F49 : AFunc := { ntmps := 38, results := [.tmp 6, .tmp 7], body := C49_16 }
def p49_0 (x0_1 : Ad) (x1_2 : Int) (x2_3 : Int) (M : Mem) : Rs := run false call meth F49.results [.code C49_16] (some (.ptr x0_1) :: some (.int .i64 x1_2) :: some (.int .i64 x2_3) :: nn 35 []) M
def p49_1 (x9_106 : Int) (x25_107a : Ad) (x25_107l : Nat) (x25_107c : Cap) (x26_108 : Int) (x27_109 : Int) (M : Mem) : Rs := run false call meth F49.results [.code C49_7, .inLoop C49_8, .inBlock 0, .code C49_2] (nn 9 (some (.int .u64 x9_106) :: nn 15 (some (.sl x25_107a x25_107l x25_107c) :: some (.int .i64 x26_108) :: some (.int .i64 x27_109) :: nn 10 []))) M
theorem p49_0_eq (x0_1 : Ad) (x1_2 : Int) (x2_3 : Int) (M : Mem) : p49_0 call meth x0_1 x1_2 x2_3 M = (Option.bind (call 55 [.ptr x0_1, .int .i64 x1_2, .int .i64 x2_3] M) fun r101 => (Option.bind (r101.1.int? .i64) fun x102 => (cond (x102 != 0) (some (.tup [.int .u64 0, .int .i64 x102], r101.2)) (Option.bind (call 36 [.ptr x0_1] r101.2) fun r103 => (Option.bind (r103.1.sl?) fun x104 => (slcK false 1 x104.1 x104.2.1 x104.2.2 r103.2 (some (.int .i64 x1_2)) (some (.int .i64 (IntKind.wrap .i64 (x1_2 + x2_3)))) none fun s105a s105l s105c => (p49_1 call meth 0 s105a s105l s105c ((s105l : Nat) : Int) 0 r103.2))))))) :=
  (seg_run false call meth F49.results 100000 [.code C49_16] _ M).symm.trans (by kernel_rfl)
theorem p49_1_eq (x9_106 : Int) (x25_107a : Ad) (x25_107l : Nat) (x25_107c : Cap) (x26_108 : Int) (x27_109 : Int) (M : Mem) : p49_1 call meth x9_106 x25_107a x25_107l x25_107c x26_108 x27_109 M = (cond (decide (x27_109 < x26_108)) (cond (decide (0 ≤ x27_109)) (cond (Nat.blt x27_109.toNat x25_107l) (Option.bind (slPtr x25_107a x25_107c) fun p201 => (Option.bind (M.ldI .u8 p201.1 (p201.2 + x27_109.toNat * 1)) fun x202 => (p49_1 call meth (IntKind.wrap .u64 ((BitVec.ofInt (IntKind.bits .u64) (IntKind.wrap .u64 (x9_106 * 2 ^ Nat.min 8 (IntKind.bits .u64))) ||| BitVec.ofInt (IntKind.bits .u64) (IntKind.wrap .u64 x202)).toNat)) x25_107a x25_107l x25_107c x26_108 (IntKind.wrap .i64 (x27_109 + 1)) M))) none) none) (some (.tup [.int .u64 x9_106, .int .i64 0], M))) :=
  (seg_run false call meth F49.results 100000 [.code C49_7, .inLoop C49_8, .inBlock 0, .code C49_2] _ M).symm.trans (by kernel_rfl)
theorem run49 (x0_1 : Ad) (x1_2 : Int) (x2_3 : Int) (M : Mem) : run false call meth F49.results [.code F49.body] (frame0 F49 [.ptr x0_1, .int .i64 x1_2, .int .i64 x2_3]) M = p49_0 call meth x0_1 x1_2 x2_3 M := by kernel_rfl
theorem ok49 : okFn Try.prog 49 F49 = true := by kernel_rfl
def C50_1 : AC := .ret
def C50_2 : AC := .seq (.drw (.o 5 (.mov (.t 0)) (.o 6 (.nilCk (.t 5)) (.o 7 (.fldA 3 (.t 6)) (.o 8 (.load1 (.int .i64) (.t 7)) (.o 9 (.mov (.t 0)) (.o 10 (.nilCk (.t 9)) (.o 11 (.fldA 2 (.t 10)) (.o 12 (.load1 (.int .i64) (.t 11)) (.o 13 (.bin .sub (.t 8) (.t 12)) (.o 2 (.mov (.t 13)) .nil)))))))))) [] []) C50_1
def C50_3 : AC := .ret
def C50_4 : AC := .cond (.t 4) (.seq (.reg (.o 2 (.mov (.c (.int .i64 0))) .nil) []) C50_3) .skip
def C50_5 : AC := .seq (.seq (.reg (.o 3 (.mov (.t 0)) (.o 4 (.call 51 [(.t 3)] (.r (.one .bool))) .nil)) []) C50_4) C50_2
def C50_6 : AC := .seq (.reg (.o 2 (.mov (.c (.int .i64 0))) .nil) []) C50_5
def F50 : AFunc := { ntmps := 14, results := [.tmp 2], body := C50_6 }
def p50_0 (x0_1 : Ad) (M : Mem) : Rs := run false call meth F50.results [.code C50_6] (some (.ptr x0_1) :: nn 13 []) M
theorem p50_0_eq (x0_1 : Ad) (M : Mem) : p50_0 call meth x0_1 M = (Option.bind (call 51 [.ptr x0_1] M) fun r101 => (Option.bind (r101.1.bool?) fun x102 => (cond x102 (some (.int .i64 0, r101.2)) (Option.bind x0_1 fun p103 => (Option.bind (r101.2.ldI .i64 p103.1 (p103.2 + 3)) fun x104 => (Option.bind x0_1 fun p105 => (Option.bind (r101.2.ldI .i64 p105.1 (p105.2 + 2)) fun x106 => (some (.int .i64 (IntKind.wrap .i64 (x104 - x106)), r101.2))))))))) :=
  (seg_run false call meth F50.results 100000 [.code C50_6] _ M).symm.trans (by kernel_rfl)
theorem run50 (x0_1 : Ad) (M : Mem) : run false call meth F50.results [.code F50.body] (frame0 F50 [.ptr x0_1]) M = p50_0 call meth x0_1 M := by kernel_rfl
theorem ok50 : okFn Try.prog 50 F50 = true := by kernel_rfl
def C51_1 : AC := .ret
def C51_2 : AC := .seq (.reg (.o 3 (.mov (.t 0)) (.o 4 (.eq false .ptr (.t 3) (.c (.ptr none))) (.o 5 (.mov (.t 4)) (.grp 5 false (.o 6 (.mov (.t 0)) (.o 7 (.nilCk (.t 6)) (.o 8 (.fldA 0 (.t 7)) (.o 9 (.load1 .bool (.t 8)) (.o 10 (.not (.t 9)) .nil))))) (.o 11 (.pick (.t 5) (.c (.bool true)) (.t 10)) (.o 2 (.mov (.t 11)) .nil)))))) []) C51_1
def C51_3 : AC := .seq (.reg (.o 2 (.mov (.c (.bool false))) .nil) []) C51_2
def F51 : AFunc := { ntmps := 12, results := [.tmp 2], body := C51_3 }
def p51_0 (x0_1 : Ad) (M : Mem) : Rs := run false call meth F51.results [.code C51_3] (some (.ptr x0_1) :: nn 11 []) M
theorem p51_0_eq (x0_1 : Ad) (M : Mem) : p51_0 call meth x0_1 M = (cond x0_1.isNone (some (.bool true, M)) (Option.bind x0_1 fun p101 => (Option.bind (M.ldB p101.1 (p101.2 + 0)) fun x102 => (some (.bool (!x102), M))))) :=
  (seg_run false call meth F51.results 100000 [.code C51_3] _ M).symm.trans (by kernel_rfl)
theorem run51 (x0_1 : Ad) (M : Mem) : run false call meth F51.results [.code F51.body] (frame0 F51 [.ptr x0_1]) M = p51_0 call meth x0_1 M := by kernel_rfl
theorem ok51 : okFn Try.prog 51 F51 = true := by kernel_rfl
def C53_1 : AC := .ret
def C53_2 : AC := .seq (.reg (.o 3 (.mov (.t 0)) (.o 4 (.nilCk (.t 3)) (.o 5 (.fldA 0 (.t 4)) (.o 6 (.load1 .sl (.t 5)) (.o 7 (.len (.t 6)) (.o 2 (.mov (.t 7)) .nil)))))) []) C53_1
def C53_3 : AC := .seq (.reg (.o 2 (.mov (.c (.int .i64 0))) .nil) []) C53_2
def F53 : AFunc := { ntmps := 8, results := [.tmp 2], body := C53_3 }
theorem ok53 : okFn Try.prog 53 F53 = true := by kernel_rfl
def C54_1 : AC := .reg (.o 40 (.mov (.t 0)) (.o 41 (.mov (.t 2)) (.o 42 (.build [.ptr none, .int .i64 0] [(0, 1, (.t 41)), (1, 1, (.c (.int .i64 1)))]) (.o 43 (.box (.t 42)) (.o 44 (.nilCk (.t 40)) (.o 45 (.fldA 0 (.t 44)) (.op none (.store 1 (.t 45) (.t 43)) .nil))))))) []
def C54_2 : AC := .seq (.reg (.o 27 (.mov (.t 0)) (.o 28 (.nilCk (.t 27)) (.o 29 (.fldA 0 (.t 28)) (.o 30 (.load1 .ptr (.t 29)) (.o 31 (.nilCk (.t 30)) (.o 32 (.fldA 0 (.t 31)) (.o 33 (.load1 .ptr (.t 32)) (.o 34 (.nilCk (.t 33)) (.o 35 (.fldA 0 (.t 34)) (.o 36 (.load1 .sl (.t 35)) (.o 37 (.call 43 [(.t 36), (.c (.int .i64 64)), (.c (.int .i64 64))] (.tup [.one .ptr, .one (.int .i64)])) (.o 26 (.mov (.t 37)) (.o 38 (.ext (.t 26) 0) (.o 39 (.ext (.t 26) 1) (.o 2 (.mov (.t 38)) (.o 3 (.mov (.t 39)) .nil)))))))))))))))) []) C54_1
def C54_3 : AC := .seq (.drw (.o 12 (.mov (.t 0)) (.o 13 (.nilCk (.t 12)) (.o 14 (.fldA 0 (.t 13)) (.o 15 (.load1 .ptr (.t 14)) (.o 16 (.mov (.t 0)) (.o 17 (.nilCk (.t 16)) (.o 18 (.fldA 0 (.t 17)) (.o 19 (.load1 .ptr (.t 18)) (.o 20 (.nilCk (.t 19)) (.o 21 (.fldA 1 (.t 20)) (.o 22 (.load1 (.int .i64) (.t 21)) (.o 23 (.bin .sub (.t 22) (.c (.int .i64 1))) (.o 24 (.nilCk (.t 15)) (.o 25 (.fldA 1 (.t 24)) (.op none (.store 1 (.t 25) (.t 23)) .nil))))))))))))))) [] []) C54_2
def C54_4 : AC := .cond (.t 11) .ret .skip
def C54_5 : AC := .seq (.seq (.reg (.o 4 (.mov (.t 0)) (.o 5 (.nilCk (.t 4)) (.o 6 (.fldA 0 (.t 5)) (.o 7 (.load1 .ptr (.t 6)) (.o 8 (.nilCk (.t 7)) (.o 9 (.fldA 1 (.t 8)) (.o 10 (.load1 (.int .i64) (.t 9)) (.o 11 (.bin .eql (.t 10) (.c (.int .i64 1))) .nil)))))))) []) C54_4) C54_3
def F54 : AFunc := { ntmps := 46, results := [], body := C54_5 }
theorem ok54 : okFn Try.prog 54 F54 = true := by kernel_rfl
def C55_1 : AC := .ret
def C55_2 : AC := .seq (.reg (.o 6 (.mov (.c (.int .i64 0))) .nil) []) C55_1
def C55_3 : AC := .ret
def C55_4 : AC := .ret
def C55_5 : AC := .ret
def C55_6 : AC := .cond (.t 17) (.seq (.reg (.o 6 (.mov (.c (.int .i64 20))) .nil) []) C55_5) .skip
def C55_7 : AC := .cond (.t 10) (.seq (.reg (.o 6 (.mov (.c (.int .i64 2))) .nil) []) C55_4) (.seq (.reg (.o 18 (.mov (.t 1)) (.o 19 (.bin .lss (.t 18) (.c (.int .i64 0))) (.o 20 (.mov (.t 19)) (.grp 20 false (.o 21 (.mov (.t 1)) (.o 22 (.mov (.t 0)) (.o 23 (.call 50 [(.t 22)] (.r (.one (.int .i64)))) (.o 24 (.mov (.t 2)) (.o 25 (.bin .sub (.t 23) (.t 24)) (.o 26 (.bin .gtr (.t 21) (.t 25)) .nil)))))) (.o 27 (.pick (.t 20) (.c (.bool true)) (.t 26)) (.o 17 (.mov (.t 27)) .nil)))))) []) C55_6)
def C55_8 : AC := .seq (.reg (.o 11 (.mov (.t 2)) (.o 12 (.bin .lss (.t 11) (.c (.int .i64 1))) (.o 13 (.mov (.t 12)) (.grp 13 false (.o 14 (.mov (.t 2)) (.o 15 (.bin .gtr (.t 14) (.c (.int .i64 8))) .nil)) (.o 16 (.pick (.t 13) (.c (.bool true)) (.t 15)) (.o 10 (.mov (.t 16)) .nil)))))) []) C55_7
def C55_9 : AC := .cond (.t 7) (.seq (.reg (.o 6 (.mov (.c (.int .i64 1))) .nil) []) C55_3) (.kil (rg 3 25 []) (.pt C55_8))
def C55_10 : AC := .seq (.block 0 (.seq (.reg (.o 8 (.mov (.t 0)) (.o 9 (.call 51 [(.t 8)] (.r (.one .bool))) (.o 7 (.mov (.t 9)) .nil))) []) C55_9)) C55_2
def C55_11 : AC := .seq (.reg (.o 6 (.mov (.c (.int .i64 0))) .nil) []) C55_10
def F55 : AFunc := { ntmps := 28, results := [.tmp 6], body := C55_11 }
def p55_0 (x0_1 : Ad) (x1_2 : Int) (x2_3 : Int) (M : Mem) : Rs := run false call meth F55.results [.code C55_11] (some (.ptr x0_1) :: some (.int .i64 x1_2) :: some (.int .i64 x2_3) :: nn 25 []) M
def p55_1 (x0_103 : Ad) (x1_104 : Int) (x2_105 : Int) (M : Mem) : Rs := run false call meth F55.results [.code C55_8, .inBlock 0, .code C55_2] (some (.ptr x0_103) :: some (.int .i64 x1_104) :: some (.int .i64 x2_105) :: nn 25 []) M
theorem p55_0_eq (x0_1 : Ad) (x1_2 : Int) (x2_3 : Int) (M : Mem) : p55_0 call meth x0_1 x1_2 x2_3 M = (Option.bind (call 51 [.ptr x0_1] M) fun r101 => (Option.bind (r101.1.bool?) fun x102 => (cond x102 (some (.int .i64 1, r101.2)) (p55_1 call meth x0_1 x1_2 x2_3 r101.2)))) :=
  (seg_run false call meth F55.results 100000 [.code C55_11] _ M).symm.trans (by kernel_rfl)
theorem p55_1_eq (x0_103 : Ad) (x1_104 : Int) (x2_105 : Int) (M : Mem) : p55_1 call meth x0_103 x1_104 x2_105 M = (cond (decide (x2_105 < 1)) (some (.int .i64 2, M)) (cond (decide (x2_105 > 8)) (some (.int .i64 2, M)) (cond (decide (x1_104 < 0)) (some (.int .i64 20, M)) (Option.bind (call 50 [.ptr x0_103] M) fun r201 => (Option.bind (r201.1.int? .i64) fun x202 => (cond (decide (x1_104 > (IntKind.wrap .i64 (x202 - x2_105)))) (some (.int .i64 20, r201.2)) (some (.int .i64 0, r201.2)))))))) :=
  (seg_run false call meth F55.results 100000 [.code C55_8, .inBlock 0, .code C55_2] _ M).symm.trans (by kernel_rfl)
theorem run55 (x0_1 : Ad) (x1_2 : Int) (x2_3 : Int) (M : Mem) : run false call meth F55.results [.code F55.body] (frame0 F55 [.ptr x0_1, .int .i64 x1_2, .int .i64 x2_3]) M = p55_0 call meth x0_1 x1_2 x2_3 M := by kernel_rfl
theorem ok55 : okFn Try.prog 55 F55 = true := by kernel_rfl
def C56_1 : AC := .reg (.o 31 (.mov (.t 0)) (.o 32 (.mov (.t 0)) (.o 33 (.mov (.t 0)) (.o 34 (.mov (.t 12)) (.o 35 (.mov (.t 2)) (.o 36 (.mov (.t 12)) (.o 37 (.len (.t 36)) (.o 38 (.mov (.t 5)) (.o 39 (.bin .sub (.t 37) (.t 38)) (.o 40 (.nilCk (.t 31)) (.o 41 (.fldA 1 (.t 40)) (.op none (.store 1 (.t 41) (.t 34)) (.o 42 (.nilCk (.t 32)) (.o 43 (.fldA 2 (.t 42)) (.op none (.store 1 (.t 43) (.t 35)) (.o 44 (.nilCk (.t 33)) (.o 45 (.fldA 3 (.t 44)) (.op none (.store 1 (.t 45) (.t 39)) .nil)))))))))))))))))) []
def C56_2 : AC := .seq (.reg (.o 24 (.mov (.t 12)) (.o 25 (.mov (.t 2)) (.o 26 (.mov (.t 3)) (.o 27 (.bin .add (.t 25) (.t 26)) (.o 28 (.slc 1 (.t 24) (some (.t 27)) none none) (.o 29 (.mov (.t 1)) (.o 30 (.copy 1 (.t 28) (.t 29)) .nil))))))) []) C56_1
def C56_3 : AC := .seq (.reg (.o 13 (.mov (.t 2)) (.o 14 (.mov (.t 3)) (.o 15 (.bin .add (.t 13) (.t 14)) (.o 16 (.mov (.t 1)) (.o 17 (.len (.t 16)) (.o 18 (.bin .add (.t 15) (.t 17)) (.o 19 (.mov (.t 4)) (.o 20 (.bin .add (.t 18) (.t 19)) (.o 21 (.mov (.t 5)) (.o 22 (.bin .add (.t 20) (.t 21)) (.o 23 (.mkSl [.int .u8 0] 1 (.t 22) (.t 22)) (.o 12 (.mov (.t 23)) .nil)))))))))))) []) C56_2
def F56 : AFunc := { ntmps := 46, results := [], body := C56_3 }
def p56_0 (x0_1 : Ad) (x1_2a : Ad) (x1_2l : Nat) (x1_2c : Cap) (x2_3 : Int) (x3_4 : Int) (x4_5 : Int) (x5_6 : Int) (M : Mem) : Rs := run false call meth F56.results [.code C56_3] (some (.ptr x0_1) :: some (.sl x1_2a x1_2l x1_2c) :: some (.int .i64 x2_3) :: some (.int .i64 x3_4) :: some (.int .i64 x4_5) :: some (.int .i64 x5_6) :: nn 40 []) M
theorem p56_0_eq (x0_1 : Ad) (x1_2a : Ad) (x1_2l : Nat) (x1_2c : Cap) (x2_3 : Int) (x3_4 : Int) (x4_5 : Int) (x5_6 : Int) (M : Mem) : p56_0 call meth x0_1 x1_2a x1_2l x1_2c x2_3 x3_4 x4_5 x5_6 M = (cond (decide (0 ≤ (IntKind.wrap .i64 ((IntKind.wrap .i64 ((IntKind.wrap .i64 ((IntKind.wrap .i64 (x2_3 + x3_4)) + ((x1_2l : Nat) : Int))) + x4_5)) + x5_6)))) (cond (decide (0 ≤ (IntKind.wrap .i64 ((IntKind.wrap .i64 ((IntKind.wrap .i64 ((IntKind.wrap .i64 (x2_3 + x3_4)) + ((x1_2l : Nat) : Int))) + x4_5)) + x5_6)))) (cond (Nat.ble ((IntKind.wrap .i64 ((IntKind.wrap .i64 ((IntKind.wrap .i64 ((IntKind.wrap .i64 (x2_3 + x3_4)) + ((x1_2l : Nat) : Int))) + x4_5)) + x5_6)).toNat) ((IntKind.wrap .i64 ((IntKind.wrap .i64 ((IntKind.wrap .i64 ((IntKind.wrap .i64 (x2_3 + x3_4)) + ((x1_2l : Nat) : Int))) + x4_5)) + x5_6)).toNat) && Nat.ble (1 * ((IntKind.wrap .i64 ((IntKind.wrap .i64 ((IntKind.wrap .i64 ((IntKind.wrap .i64 (x2_3 + x3_4)) + ((x1_2l : Nat) : Int))) + x4_5)) + x5_6)).toNat)) (2 ^ 47)) (let M101 := M.alloc ⟨replZ [.int .u8 0] ((IntKind.wrap .i64 ((IntKind.wrap .i64 ((IntKind.wrap .i64 ((IntKind.wrap .i64 (x2_3 + x3_4)) + ((x1_2l : Nat) : Int))) + x4_5)) + x5_6)).toNat), .fixed⟩; (slcK false 1 (some (M.n, 0)) ((IntKind.wrap .i64 ((IntKind.wrap .i64 ((IntKind.wrap .i64 ((IntKind.wrap .i64 (x2_3 + x3_4)) + ((x1_2l : Nat) : Int))) + x4_5)) + x5_6)).toNat) (.known ((IntKind.wrap .i64 ((IntKind.wrap .i64 ((IntKind.wrap .i64 ((IntKind.wrap .i64 (x2_3 + x3_4)) + ((x1_2l : Nat) : Int))) + x4_5)) + x5_6)).toNat)) M101 (some (.int .i64 (IntKind.wrap .i64 (x2_3 + x3_4)))) none none fun s102a s102l s102c => (copyK false 1 M101 s102a s102l s102c (.sl x1_2a x1_2l x1_2c) fun n103 M104 => (Option.bind x0_1 fun p105 => (Option.bind (M104.st p105.1 (p105.2 + 1) [.sl (some (M.n, 0)) ((IntKind.wrap .i64 ((IntKind.wrap .i64 ((IntKind.wrap .i64 ((IntKind.wrap .i64 (x2_3 + x3_4)) + ((x1_2l : Nat) : Int))) + x4_5)) + x5_6)).toNat) (.known ((IntKind.wrap .i64 ((IntKind.wrap .i64 ((IntKind.wrap .i64 ((IntKind.wrap .i64 (x2_3 + x3_4)) + ((x1_2l : Nat) : Int))) + x4_5)) + x5_6)).toNat))]) fun M106 => (Option.bind x0_1 fun p107 => (Option.bind (M106.st p107.1 (p107.2 + 2) [.int .i64 x2_3]) fun M108 => (Option.bind x0_1 fun p109 => (Option.bind (M108.st p109.1 (p109.2 + 3) [.int .i64 (IntKind.wrap .i64 ((((IntKind.wrap .i64 ((IntKind.wrap .i64 ((IntKind.wrap .i64 ((IntKind.wrap .i64 (x2_3 + x3_4)) + ((x1_2l : Nat) : Int))) + x4_5)) + x5_6)).toNat : Nat) : Int) - x5_6))]) fun M110 => (some (.tup [], M110))))))))))) none) none) none) :=
  (seg_run false call meth F56.results 100000 [.code C56_3] _ M).symm.trans (by kernel_rfl)
theorem run56 (x0_1 : Ad) (x1_2a : Ad) (x1_2l : Nat) (x1_2c : Cap) (x2_3 : Int) (x3_4 : Int) (x4_5 : Int) (x5_6 : Int) (M : Mem) : run false call meth F56.results [.code F56.body] (frame0 F56 [.ptr x0_1, .sl x1_2a x1_2l x1_2c, .int .i64 x2_3, .int .i64 x3_4, .int .i64 x4_5, .int .i64 x5_6]) M = p56_0 call meth x0_1 x1_2a x1_2l x1_2c x2_3 x3_4 x4_5 x5_6 M := by kernel_rfl
theorem ok56 : okFn Try.prog 56 F56 = true := by kernel_rfl
end
end Go.Proofs.Ytjcakemgghfflaa.M
