/- Ytjcakemgghfflaa: functions cut into pieces, with an equation for each cut point (printed by ptgen.py). -/
import Derived.Test.YtjcakemgghfflaaXRen
import Derived.Test.YtjcakemgghfflaaProg
set_option linter.unusedVariables false
set_option maxRecDepth 100000
namespace Go.Proofs.Ytjcakemgghfflaa.M
open Go.Abs
/-! sallyport/sallyportref00.Cut -/
def C10_1 : AC := .ret
def C10_2 : AC := .seq (.reg (.op (some 12) (.mov (.t 0)) (.op (some 4) (.mov (.t 12)) .nil)) []) C10_1
def C10_3 : AC := .ret
def C10_4 : AC := .cond (.t 8) (.seq (.reg (.op (some 9) (.mov (.t 0)) (.op (some 10) (.mov (.t 1)) (.op (some 11) (.slc 1 (.t 9) none (some (.t 10)) none) (.op (some 4) (.mov (.t 11)) .nil)))) []) C10_3) .skip
def C10_5 : AC := .seq (.seq (.reg (.op (some 5) (.mov (.t 0)) (.op (some 6) (.len (.t 5)) (.op (some 7) (.mov (.t 1)) (.op (some 8) (.bin .gtr (.t 6) (.t 7)) .nil)))) []) C10_4) C10_2
def C10_6 : AC := .seq (.reg (.op (some 4) (.mov (.c (.sl none 0 (.known 0)))) .nil) []) C10_5
def F10 : AFunc := { ntmps := 13, results := [.tmp 4], body := C10_6 }
noncomputable def p10_0 (call : CallF) (meth : MethF) (x0_1a : Option (Nat × Nat)) (x0_1l : Nat) (x0_1c : Cap) (x1_2 : Int) (M : Mem) : Option (AVal × Mem) := run false call meth F10.results [.code C10_6] [some (.sl x0_1a x0_1l x0_1c), some (.int .i64 x1_2), none, none, none, none, none, none, none, none, none, none, none] M
theorem p10_0_eq (call : CallF) (meth : MethF) (x0_1a : Option (Nat × Nat)) (x0_1l : Nat) (x0_1c : Cap) (x1_2 : Int) (M : Mem) : p10_0 call meth x0_1a x0_1l x0_1c x1_2 M = (cond (decide (((x0_1l : Nat) : Int) > x1_2)) (slcK false 1 x0_1a x0_1l x0_1c M none (some (.int .i64 x1_2)) none fun s101a s101l s101c => (some (.sl s101a s101l s101c, M))) (some (.sl x0_1a x0_1l x0_1c, M))) :=
  (seg_run false call meth F10.results 100000 [.code C10_6] _ M).symm.trans (by kernel_rfl)
theorem run10 (call : CallF) (meth : MethF) (x0_1a : Option (Nat × Nat)) (x0_1l : Nat) (x0_1c : Cap) (x1_2 : Int) (M : Mem) : run false call meth F10.results [.code F10.body] (frame0 F10 [.sl x0_1a x0_1l x0_1c, .int .i64 x1_2]) M = p10_0 call meth x0_1a x0_1l x0_1c x1_2 M := by kernel_rfl
theorem ok10 : okFn Try.prog 10 F10 = true := by kernel_rfl
/-! sallyport/share.New -/
def C11_1 : AC := .ret
def C11_2 : AC := .seq (.reg (.op (some 14) (.mov (.t 4)) (.op (some 15) (.build [.bool false, .ptr none] [(0, 1, (.c (.bool true))), (1, 1, (.t 14))]) (.op (some 16) (.box (.t 15)) (.op (some 2) (.mov (.t 16)) (.op (some 3) (.mov (.c (.int .i64 0))) .nil))))) []) C11_1
def C11_3 : AC := .ret
def C11_4 : AC := .cond (.t 12) (.seq (.reg (.op (some 13) (.mov (.t 5)) (.op (some 2) (.mov (.c (.ptr none))) (.op (some 3) (.mov (.t 13)) .nil))) []) C11_3) .skip
def C11_5 : AC := .seq (.seq (.reg (.op (some 11) (.mov (.t 5)) (.op (some 12) (.bin .neq (.t 11) (.c (.int .i64 0))) .nil)) []) C11_4) C11_2
def C11_6 : AC := .seq (.reg (.op (some 7) (.mov (.t 0)) (.op (some 8) (.call 31 [(.t 7)] (.tup [.one .ptr, .one (.int .i64)])) (.op (some 6) (.mov (.t 8)) (.op (some 9) (.ext (.t 6) 0) (.op (some 10) (.ext (.t 6) 1) (.op (some 4) (.mov (.t 9)) (.op (some 5) (.mov (.t 10)) .nil))))))) []) C11_5
def C11_7 : AC := .seq (.reg (.op (some 2) (.mov (.c (.ptr none))) (.op (some 3) (.mov (.c (.int .i64 0))) .nil)) []) C11_6
def F11 : AFunc := { ntmps := 17, results := [.tmp 2, .tmp 3], body := C11_7 }
noncomputable def p11_0 (call : CallF) (meth : MethF) (x0_1a : Option (Nat × Nat)) (x0_1l : Nat) (x0_1c : Cap) (M : Mem) : Option (AVal × Mem) := run false call meth F11.results [.code C11_7] [some (.sl x0_1a x0_1l x0_1c), none, none, none, none, none, none, none, none, none, none, none, none, none, none, none, none] M
theorem p11_0_eq (call : CallF) (meth : MethF) (x0_1a : Option (Nat × Nat)) (x0_1l : Nat) (x0_1c : Cap) (M : Mem) : p11_0 call meth x0_1a x0_1l x0_1c M = (Option.bind (call 31 [.sl x0_1a x0_1l x0_1c] M) fun r101 => (Option.bind r101.1.tup? fun l102 => (Option.bind l102.head? fun v103 => (Option.bind (v103.ptr?) fun x104 => (Option.bind l102.tail.head? fun v105 => (Option.bind (v105.int? .i64) fun x106 => (cond l102.tail.tail.isEmpty (cond (x106 != 0) (some (.tup [.ptr none, .int .i64 x106], r101.2)) (let M107 := r101.2.alloc ⟨[.bool true, .ptr x104], .fixed⟩; (some (.tup [.ptr (some (r101.2.n, 0)), .int .i64 0], M107)))) none))))))) :=
  (seg_run false call meth F11.results 100000 [.code C11_7] _ M).symm.trans (by kernel_rfl)
theorem run11 (call : CallF) (meth : MethF) (x0_1a : Option (Nat × Nat)) (x0_1l : Nat) (x0_1c : Cap) (M : Mem) : run false call meth F11.results [.code F11.body] (frame0 F11 [.sl x0_1a x0_1l x0_1c]) M = p11_0 call meth x0_1a x0_1l x0_1c M := by kernel_rfl
theorem ok11 : okFn Try.prog 11 F11 = true := by kernel_rfl
/-! (*sallyport/share.Share).Bytes -/
def C13_1 : AC := .ret
def C13_2 : AC := .seq (.reg (.op (some 6) (.mov (.t 0)) (.op (some 7) (.nilCk (.t 6)) (.op (some 8) (.fldA 1 (.t 7)) (.op (some 9) (.load1 .ptr (.t 8)) (.op (some 10) (.nilCk (.t 9)) (.op (some 11) (.fldA 0 (.t 10)) (.op (some 12) (.load1 .ptr (.t 11)) (.op (some 13) (.call 38 [(.t 12)] (.r (.one .sl))) (.op (some 2) (.mov (.t 13)) .nil))))))))) []) C13_1
def C13_3 : AC := .ret
def C13_4 : AC := .cond (.t 5) (.seq (.reg (.op (some 2) (.mov (.c (.sl none 0 (.known 0)))) .nil) []) C13_3) .skip
def C13_5 : AC := .seq (.seq (.reg (.op (some 3) (.mov (.t 0)) (.op (some 4) (.call 37 [(.t 3)] (.r (.one (.int .i64)))) (.op (some 5) (.bin .neq (.t 4) (.c (.int .i64 0))) .nil))) []) C13_4) C13_2
def C13_6 : AC := .seq (.reg (.op (some 2) (.mov (.c (.sl none 0 (.known 0)))) .nil) []) C13_5
def F13 : AFunc := { ntmps := 14, results := [.tmp 2], body := C13_6 }
noncomputable def p13_0 (call : CallF) (meth : MethF) (x0_1 : Option (Nat × Nat)) (M : Mem) : Option (AVal × Mem) := run false call meth F13.results [.code C13_6] [some (.ptr x0_1), none, none, none, none, none, none, none, none, none, none, none, none, none] M
theorem p13_0_eq (call : CallF) (meth : MethF) (x0_1 : Option (Nat × Nat)) (M : Mem) : p13_0 call meth x0_1 M = (Option.bind (call 37 [.ptr x0_1] M) fun r101 => (Option.bind (r101.1.int? .i64) fun x102 => (cond (x102 != 0) (some (.sl none 0 (.known 0), r101.2)) (Option.bind x0_1 fun p103 => (Option.bind (r101.2.ldP p103.1 (p103.2 + 1)) fun x104 => (Option.bind x104 fun p105 => (Option.bind (r101.2.ldP p105.1 (p105.2 + 0)) fun x106 => (Option.bind (call 38 [.ptr x106] r101.2) fun r107 => (Option.bind (r107.1.sl?) fun x108 => (some (.sl x108.1 x108.2.1 x108.2.2, r107.2))))))))))) :=
  (seg_run false call meth F13.results 100000 [.code C13_6] _ M).symm.trans (by kernel_rfl)
theorem run13 (call : CallF) (meth : MethF) (x0_1 : Option (Nat × Nat)) (M : Mem) : run false call meth F13.results [.code F13.body] (frame0 F13 [.ptr x0_1]) M = p13_0 call meth x0_1 M := by kernel_rfl
theorem ok13 : okFn Try.prog 13 F13 = true := by kernel_rfl
/-! sallyport/sallyportlaw23.within -/
def C14_1 : AC := .ret
def C14_2 : AC := .seq (.reg (.op (some 5) (.fldA 0 (.t 2)) (.op (some 6) (.load1 (.int .i64) (.t 5)) (.op (some 7) (.bin .geq (.t 6) (.c (.int .i64 0))) (.op (some 8) (.mov (.t 7)) (.grp 8 true (.op (some 9) (.fldA 1 (.t 2)) (.op (some 10) (.load1 (.int .i64) (.t 9)) (.op (some 11) (.bin .geq (.t 10) (.c (.int .i64 0))) .nil))) (.op (some 12) (.pick (.t 8) (.t 11) (.c (.bool false))) (.op (some 13) (.mov (.t 12)) (.grp 13 true (.op (some 14) (.fldA 0 (.t 2)) (.op (some 15) (.load1 (.int .i64) (.t 14)) (.op (some 16) (.mov (.t 1)) (.op (some 17) (.bin .leq (.t 15) (.t 16)) .nil)))) (.op (some 18) (.pick (.t 13) (.t 17) (.c (.bool false))) (.op (some 19) (.mov (.t 18)) (.grp 19 true (.op (some 20) (.fldA 1 (.t 2)) (.op (some 21) (.load1 (.int .i64) (.t 20)) (.op (some 22) (.mov (.t 1)) (.op (some 23) (.fldA 0 (.t 2)) (.op (some 24) (.load1 (.int .i64) (.t 23)) (.op (some 25) (.bin .sub (.t 22) (.t 24)) (.op (some 26) (.bin .leq (.t 21) (.t 25)) .nil))))))) (.op (some 27) (.pick (.t 19) (.t 26) (.c (.bool false))) (.op (some 4) (.mov (.t 27)) .nil))))))))))))) []) C14_1
def C14_3 : AC := .seq (.reg (.op (some 2) (.box (.t 0)) (.op (some 4) (.mov (.c (.bool false))) .nil)) []) C14_2
def F14 : AFunc := { ntmps := 28, results := [.tmp 4], body := C14_3 }
noncomputable def p14_0 (call : CallF) (meth : MethF) (x0_1 : Int) (x0_2 : Int) (x1_3 : Int) (M : Mem) : Option (AVal × Mem) := run false call meth F14.results [.code C14_3] [some (.agg [.int .i64 x0_1, .int .i64 x0_2]), some (.int .i64 x1_3), none, none, none, none, none, none, none, none, none, none, none, none, none, none, none, none, none, none, none, none, none, none, none, none, none, none] M
theorem p14_0_eq (call : CallF) (meth : MethF) (x0_1 : Int) (x0_2 : Int) (x1_3 : Int) (M : Mem) : p14_0 call meth x0_1 x0_2 x1_3 M = (let M101 := M.alloc ⟨[.int .i64 x0_1, .int .i64 x0_2], .fixed⟩; (Option.bind (M101.ldI .i64 M.n 0) fun x102 => (cond (decide (x102 ≥ 0)) (Option.bind (M101.ldI .i64 M.n 1) fun x103 => (cond (decide (x103 ≥ 0)) (Option.bind (M101.ldI .i64 M.n 0) fun x104 => (cond (decide (x104 ≤ x1_3)) (Option.bind (M101.ldI .i64 M.n 1) fun x105 => (Option.bind (M101.ldI .i64 M.n 0) fun x106 => (some (.bool (decide (x105 ≤ (IntKind.wrap .i64 (x1_3 - x106)))), M101)))) (some (.bool false, M101)))) (some (.bool false, M101)))) (some (.bool false, M101))))) :=
  (seg_run false call meth F14.results 100000 [.code C14_3] _ M).symm.trans (by kernel_rfl)
theorem run14 (call : CallF) (meth : MethF) (x0_1 : Int) (x0_2 : Int) (x1_3 : Int) (M : Mem) : run false call meth F14.results [.code F14.body] (frame0 F14 [.agg [.int .i64 x0_1, .int .i64 x0_2], .int .i64 x1_3]) M = p14_0 call meth x0_1 x0_2 x1_3 M := by kernel_rfl
theorem ok14 : okFn Try.prog 14 F14 = true := by kernel_rfl
/-! sallyport/sallyportref00.EqBytes -/
def C15_1 : AC := .ret
def C15_2 : AC := .seq (.reg (.op (some 4) (.mov (.c (.bool true))) .nil) []) C15_1
def C15_3 : AC := .reg (.op (some 15) (.mov (.t 5)) (.op (some 16) (.bin .add (.t 15) (.c (.int .i64 1))) (.op (some 5) (.mov (.t 16)) .nil))) []
def C15_4 : AC := .ret
def C15_5 : AC := .cond (.t 25) (.seq (.reg (.op (some 4) (.mov (.c (.bool false))) .nil) []) C15_4) .skip
def C15_6 : AC := .seq (.block 1 (.seq (.drw (.op (some 17) (.mov (.t 0)) (.op (some 18) (.mov (.t 5)) (.op (some 19) (.ixS 1 (.t 17) (.t 18)) (.op (some 20) (.load1 (.int .u8) (.t 19)) (.op (some 21) (.mov (.t 1)) (.op (some 22) (.mov (.t 5)) (.op (some 23) (.ixS 1 (.t 21) (.t 22)) (.op (some 24) (.load1 (.int .u8) (.t 23)) (.op (some 25) (.bin .neq (.t 20) (.t 24)) .nil))))))))) [] []) C15_5)) C15_3
def C15_7 : AC := .cond (.t 14) .skip (.exit 0)
def C15_8 : AC := .seq (.seq (.reg (.op (some 11) (.mov (.t 5)) (.op (some 12) (.mov (.t 0)) (.op (some 13) (.len (.t 12)) (.op (some 14) (.bin .lss (.t 11) (.t 13)) .nil)))) []) C15_7) C15_6
def C15_9 : AC := .kil [2, 3, 4, 6, 7, 8, 9, 10, 11, 12, 13, 14, 15, 16, 17, 18, 19, 20, 21, 22, 23, 24, 25] (.pt C15_8)
def C15_10 : AC := .block 0 (.loop C15_9)
def C15_11 : AC := .seq (.seq (.reg (.op (some 5) (.mov (.c (.int .i64 0))) .nil) []) C15_10) C15_2
def C15_12 : AC := .ret
def C15_13 : AC := .cond (.t 10) (.seq (.reg (.op (some 4) (.mov (.c (.bool false))) .nil) []) C15_12) .skip
def C15_14 : AC := .seq (.seq (.reg (.op (some 6) (.mov (.t 0)) (.op (some 7) (.len (.t 6)) (.op (some 8) (.mov (.t 1)) (.op (some 9) (.len (.t 8)) (.op (some 10) (.bin .neq (.t 7) (.t 9)) .nil))))) []) C15_13) C15_11
def C15_15 : AC := .seq (.reg (.op (some 4) (.mov (.c (.bool false))) .nil) []) C15_14
def F15 : AFunc := { ntmps := 26, results := [.tmp 4], body := C15_15 }
noncomputable def p15_0 (call : CallF) (meth : MethF) (x0_1a : Option (Nat × Nat)) (x0_1l : Nat) (x0_1c : Cap) (x1_2a : Option (Nat × Nat)) (x1_2l : Nat) (x1_2c : Cap) (M : Mem) : Option (AVal × Mem) := run false call meth F15.results [.code C15_15] [some (.sl x0_1a x0_1l x0_1c), some (.sl x1_2a x1_2l x1_2c), none, none, none, none, none, none, none, none, none, none, none, none, none, none, none, none, none, none, none, none, none, none, none, none] M
noncomputable def p15_1 (call : CallF) (meth : MethF) (x0_101a : Option (Nat × Nat)) (x0_101l : Nat) (x0_101c : Cap) (x1_102a : Option (Nat × Nat)) (x1_102l : Nat) (x1_102c : Cap) (x5_103 : Int) (M : Mem) : Option (AVal × Mem) := run false call meth F15.results [.code C15_8, .inLoop C15_9, .inBlock 0, .code C15_2] [some (.sl x0_101a x0_101l x0_101c), some (.sl x1_102a x1_102l x1_102c), none, none, none, some (.int .i64 x5_103), none, none, none, none, none, none, none, none, none, none, none, none, none, none, none, none, none, none, none, none] M
theorem p15_0_eq (call : CallF) (meth : MethF) (x0_1a : Option (Nat × Nat)) (x0_1l : Nat) (x0_1c : Cap) (x1_2a : Option (Nat × Nat)) (x1_2l : Nat) (x1_2c : Cap) (M : Mem) : p15_0 call meth x0_1a x0_1l x0_1c x1_2a x1_2l x1_2c M = (cond (((x0_1l : Nat) : Int) != ((x1_2l : Nat) : Int)) (some (.bool false, M)) (p15_1 call meth x0_1a x0_1l x0_1c x1_2a x1_2l x1_2c 0 M)) :=
  (seg_run false call meth F15.results 100000 [.code C15_15] _ M).symm.trans (by kernel_rfl)
theorem p15_1_eq (call : CallF) (meth : MethF) (x0_101a : Option (Nat × Nat)) (x0_101l : Nat) (x0_101c : Cap) (x1_102a : Option (Nat × Nat)) (x1_102l : Nat) (x1_102c : Cap) (x5_103 : Int) (M : Mem) : p15_1 call meth x0_101a x0_101l x0_101c x1_102a x1_102l x1_102c x5_103 M = (cond (decide (x5_103 < ((x0_101l : Nat) : Int))) (cond (decide (0 ≤ x5_103)) (cond (Nat.blt x5_103.toNat x0_101l) (Option.bind (slPtr x0_101a x0_101c) fun p201 => (Option.bind (M.ldI .u8 p201.1 (p201.2 + x5_103.toNat * 1)) fun x202 => (cond (decide (0 ≤ x5_103)) (cond (Nat.blt x5_103.toNat x1_102l) (Option.bind (slPtr x1_102a x1_102c) fun p203 => (Option.bind (M.ldI .u8 p203.1 (p203.2 + x5_103.toNat * 1)) fun x204 => (cond (x202 != x204) (some (.bool false, M)) (p15_1 call meth x0_101a x0_101l x0_101c x1_102a x1_102l x1_102c (IntKind.wrap .i64 (x5_103 + 1)) M)))) none) none))) none) none) (some (.bool true, M))) :=
  (seg_run false call meth F15.results 100000 [.code C15_8, .inLoop C15_9, .inBlock 0, .code C15_2] _ M).symm.trans (by kernel_rfl)
theorem run15 (call : CallF) (meth : MethF) (x0_1a : Option (Nat × Nat)) (x0_1l : Nat) (x0_1c : Cap) (x1_2a : Option (Nat × Nat)) (x1_2l : Nat) (x1_2c : Cap) (M : Mem) : run false call meth F15.results [.code F15.body] (frame0 F15 [.sl x0_1a x0_1l x0_1c, .sl x1_2a x1_2l x1_2c]) M = p15_0 call meth x0_1a x0_1l x0_1c x1_2a x1_2l x1_2c M := by kernel_rfl
theorem ok15 : okFn Try.prog 15 F15 = true := by kernel_rfl
/-! sallyport/sallyportref00.CopyBytes -/
def C16_1 : AC := .ret
def C16_2 : AC := .seq (.reg (.op (some 4) (.mov (.t 3)) (.op (some 5) (.mov (.t 0)) (.op (some 6) (.app 1 1 (.t 4) (.t 5)) (.op (some 2) (.mov (.t 6)) .nil)))) []) C16_1
def C16_3 : AC := .seq (.reg (.op (some 3) (.mov (.c (.sl none 0 (.known 0)))) .nil) []) C16_2
def C16_4 : AC := .seq (.reg (.op (some 2) (.mov (.c (.sl none 0 (.known 0)))) .nil) []) C16_3
def F16 : AFunc := { ntmps := 7, results := [.tmp 2], body := C16_4 }
noncomputable def p16_0 (call : CallF) (meth : MethF) (x0_1a : Option (Nat × Nat)) (x0_1l : Nat) (x0_1c : Cap) (M : Mem) : Option (AVal × Mem) := run false call meth F16.results [.code C16_4] [some (.sl x0_1a x0_1l x0_1c), none, none, none, none, none, none] M
theorem p16_0_eq (call : CallF) (meth : MethF) (x0_1a : Option (Nat × Nat)) (x0_1l : Nat) (x0_1c : Cap) (M : Mem) : p16_0 call meth x0_1a x0_1l x0_1c M = (appK false 1 1 M none 0 (.known 0) (.sl x0_1a x0_1l x0_1c) fun s101a s101l s101c M102 => (some (.sl s101a s101l s101c, M102))) :=
  (seg_run false call meth F16.results 100000 [.code C16_4] _ M).symm.trans (by kernel_rfl)
theorem run16 (call : CallF) (meth : MethF) (x0_1a : Option (Nat × Nat)) (x0_1l : Nat) (x0_1c : Cap) (M : Mem) : run false call meth F16.results [.code F16.body] (frame0 F16 [.sl x0_1a x0_1l x0_1c]) M = p16_0 call meth x0_1a x0_1l x0_1c M := by kernel_rfl
theorem ok16 : okFn Try.prog 16 F16 = true := by kernel_rfl
/-! sallyport/sallyportref23.Shown -/
def C18_1 : AC := .ret
def C18_2 : AC := .seq (.reg (.op (some 8) (.mov (.t 0)) (.op (some 9) (.mov (.t 1)) (.op (some 10) (.mov (.t 2)) (.op (some 11) (.call 42 [(.t 8), (.t 9), (.t 10)] (.tup [.one .sl, .one (.int .u64)])) (.op (some 12) (.ext (.t 11) 0) (.op (some 13) (.ext (.t 11) 1) (.op (some 6) (.mov (.t 12)) (.op (some 7) (.mov (.t 13)) .nil)))))))) []) C18_1
def C18_3 : AC := .seq (.reg (.op (some 6) (.mov (.c (.sl none 0 (.known 0)))) (.op (some 7) (.mov (.c (.int .u64 0))) .nil)) []) C18_2
def F18 : AFunc := { ntmps := 14, results := [.tmp 6, .tmp 7], body := C18_3 }
noncomputable def p18_0 (call : CallF) (meth : MethF) (x0_1a : Option (Nat × Nat)) (x0_1l : Nat) (x0_1c : Cap) (x1_2 : Int) (x2_3a : Option (Nat × Nat)) (x2_3l : Nat) (x2_3c : Cap) (M : Mem) : Option (AVal × Mem) := run false call meth F18.results [.code C18_3] [some (.sl x0_1a x0_1l x0_1c), some (.int .u64 x1_2), some (.sl x2_3a x2_3l x2_3c), none, none, none, none, none, none, none, none, none, none, none] M
theorem p18_0_eq (call : CallF) (meth : MethF) (x0_1a : Option (Nat × Nat)) (x0_1l : Nat) (x0_1c : Cap) (x1_2 : Int) (x2_3a : Option (Nat × Nat)) (x2_3l : Nat) (x2_3c : Cap) (M : Mem) : p18_0 call meth x0_1a x0_1l x0_1c x1_2 x2_3a x2_3l x2_3c M = (Option.bind (call 42 [.sl x0_1a x0_1l x0_1c, .int .u64 x1_2, .sl x2_3a x2_3l x2_3c] M) fun r101 => (Option.bind r101.1.tup? fun l102 => (Option.bind l102.head? fun v103 => (Option.bind (v103.sl?) fun x104 => (Option.bind l102.tail.head? fun v105 => (Option.bind (v105.int? .u64) fun x106 => (cond l102.tail.tail.isEmpty (some (.tup [.sl x104.1 x104.2.1 x104.2.2, .int .u64 x106], r101.2)) none))))))) :=
  (seg_run false call meth F18.results 100000 [.code C18_3] _ M).symm.trans (by kernel_rfl)
theorem run18 (call : CallF) (meth : MethF) (x0_1a : Option (Nat × Nat)) (x0_1l : Nat) (x0_1c : Cap) (x1_2 : Int) (x2_3a : Option (Nat × Nat)) (x2_3l : Nat) (x2_3c : Cap) (M : Mem) : run false call meth F18.results [.code F18.body] (frame0 F18 [.sl x0_1a x0_1l x0_1c, .int .u64 x1_2, .sl x2_3a x2_3l x2_3c]) M = p18_0 call meth x0_1a x0_1l x0_1c x1_2 x2_3a x2_3l x2_3c M := by kernel_rfl
theorem ok18 : okFn Try.prog 18 F18 = true := by kernel_rfl
/-! (*sallyport/share.Share).Free -/
def C22_1 : AC := .ret
def C22_2 : AC := .seq (.reg (.op (some 2) (.mov (.c (.int .i64 0))) .nil) []) C22_1
def C22_3 : AC := .seq (.reg (.op (some 19) (.mov (.t 0)) (.op (some 20) (.nilCk (.t 19)) (.op (some 21) (.fldA 1 (.t 20)) (.op none (.store 1 (.t 21) (.c (.ptr none))) .nil)))) []) C22_2
def C22_4 : AC := .seq (.reg (.op (some 9) (.mov (.t 0)) (.op (some 10) (.nilCk (.t 9)) (.op (some 11) (.fldA 1 (.t 10)) (.op (some 12) (.load1 .ptr (.t 11)) (.op (some 13) (.nilCk (.t 12)) (.op (some 14) (.fldA 1 (.t 13)) (.op (some 15) (.load1 (.int .i64) (.t 14)) (.op (some 16) (.bin .sub (.t 15) (.c (.int .i64 1))) (.op (some 17) (.nilCk (.t 12)) (.op (some 18) (.fldA 1 (.t 17)) (.op none (.store 1 (.t 18) (.t 16)) .nil))))))))))) []) C22_3
def C22_5 : AC := .ret
def C22_6 : AC := .cond (.t 7) (.seq (.reg (.op (some 8) (.mov (.t 3)) (.op (some 2) (.mov (.t 8)) .nil)) []) C22_5) .skip
def C22_7 : AC := .seq (.reg (.op (some 6) (.mov (.t 3)) (.op (some 7) (.bin .neq (.t 6) (.c (.int .i64 0))) .nil)) []) C22_6
def C22_8 : AC := .seq (.seq (.reg (.op (some 4) (.mov (.t 0)) (.op (some 5) (.call 37 [(.t 4)] (.r (.one (.int .i64)))) (.op (some 3) (.mov (.t 5)) .nil))) []) C22_7) C22_4
def C22_9 : AC := .seq (.reg (.op (some 2) (.mov (.c (.int .i64 0))) .nil) []) C22_8
def F22 : AFunc := { ntmps := 22, results := [.tmp 2], body := C22_9 }
noncomputable def p22_0 (call : CallF) (meth : MethF) (x0_1 : Option (Nat × Nat)) (M : Mem) : Option (AVal × Mem) := run false call meth F22.results [.code C22_9] [some (.ptr x0_1), none, none, none, none, none, none, none, none, none, none, none, none, none, none, none, none, none, none, none, none, none] M
theorem p22_0_eq (call : CallF) (meth : MethF) (x0_1 : Option (Nat × Nat)) (M : Mem) : p22_0 call meth x0_1 M = (Option.bind (call 37 [.ptr x0_1] M) fun r101 => (Option.bind (r101.1.int? .i64) fun x102 => (cond (x102 != 0) (some (.int .i64 x102, r101.2)) (Option.bind x0_1 fun p103 => (Option.bind (r101.2.ldP p103.1 (p103.2 + 1)) fun x104 => (Option.bind x104 fun p105 => (Option.bind (r101.2.ldI .i64 p105.1 (p105.2 + 1)) fun x106 => (Option.bind x104 fun p107 => (Option.bind (r101.2.st p107.1 (p107.2 + 1) [.int .i64 (IntKind.wrap .i64 (x106 - 1))]) fun M108 => (Option.bind x0_1 fun p109 => (Option.bind (M108.st p109.1 (p109.2 + 1) [.ptr none]) fun M110 => (some (.int .i64 0, M110))))))))))))) :=
  (seg_run false call meth F22.results 100000 [.code C22_9] _ M).symm.trans (by kernel_rfl)
theorem run22 (call : CallF) (meth : MethF) (x0_1 : Option (Nat × Nat)) (M : Mem) : run false call meth F22.results [.code F22.body] (frame0 F22 [.ptr x0_1]) M = p22_0 call meth x0_1 M := by kernel_rfl
theorem ok22 : okFn Try.prog 22 F22 = true := by kernel_rfl
/-! sallyport/sallyportref04.New -/
def C23_1 : AC := .ret
def C23_2 : AC := .seq (.reg (.op (some 14) (.mov (.t 4)) (.op (some 15) (.build [.ptr none, .int .i64 0] [(0, 1, (.t 14)), (1, 1, (.c (.int .i64 1)))]) (.op (some 16) (.box (.t 15)) (.op (some 17) (.build [.ptr none, .bool false] [(0, 1, (.t 16))]) (.op (some 18) (.box (.t 17)) (.op (some 2) (.mov (.t 18)) (.op (some 3) (.mov (.c (.int .i64 0))) .nil))))))) []) C23_1
def C23_3 : AC := .ret
def C23_4 : AC := .cond (.t 12) (.seq (.reg (.op (some 13) (.mov (.t 5)) (.op (some 2) (.mov (.c (.ptr none))) (.op (some 3) (.mov (.t 13)) .nil))) []) C23_3) .skip
def C23_5 : AC := .seq (.seq (.reg (.op (some 11) (.mov (.t 5)) (.op (some 12) (.bin .neq (.t 11) (.c (.int .i64 0))) .nil)) []) C23_4) C23_2
def C23_6 : AC := .seq (.reg (.op (some 7) (.mov (.t 0)) (.op (some 8) (.call 43 [(.t 7), (.c (.int .i64 64)), (.c (.int .i64 64))] (.tup [.one .ptr, .one (.int .i64)])) (.op (some 6) (.mov (.t 8)) (.op (some 9) (.ext (.t 6) 0) (.op (some 10) (.ext (.t 6) 1) (.op (some 4) (.mov (.t 9)) (.op (some 5) (.mov (.t 10)) .nil))))))) []) C23_5
def C23_7 : AC := .seq (.reg (.op (some 2) (.mov (.c (.ptr none))) (.op (some 3) (.mov (.c (.int .i64 0))) .nil)) []) C23_6
def F23 : AFunc := { ntmps := 19, results := [.tmp 2, .tmp 3], body := C23_7 }
noncomputable def p23_0 (call : CallF) (meth : MethF) (x0_1a : Option (Nat × Nat)) (x0_1l : Nat) (x0_1c : Cap) (M : Mem) : Option (AVal × Mem) := run false call meth F23.results [.code C23_7] [some (.sl x0_1a x0_1l x0_1c), none, none, none, none, none, none, none, none, none, none, none, none, none, none, none, none, none, none] M
theorem p23_0_eq (call : CallF) (meth : MethF) (x0_1a : Option (Nat × Nat)) (x0_1l : Nat) (x0_1c : Cap) (M : Mem) : p23_0 call meth x0_1a x0_1l x0_1c M = (Option.bind (call 43 [.sl x0_1a x0_1l x0_1c, .int .i64 64, .int .i64 64] M) fun r101 => (Option.bind r101.1.tup? fun l102 => (Option.bind l102.head? fun v103 => (Option.bind (v103.ptr?) fun x104 => (Option.bind l102.tail.head? fun v105 => (Option.bind (v105.int? .i64) fun x106 => (cond l102.tail.tail.isEmpty (cond (x106 != 0) (some (.tup [.ptr none, .int .i64 x106], r101.2)) (let M107 := r101.2.alloc ⟨[.ptr x104, .int .i64 1], .fixed⟩; (let M108 := M107.alloc ⟨[.ptr (some (r101.2.n, 0)), .bool false], .fixed⟩; (some (.tup [.ptr (some (M107.n, 0)), .int .i64 0], M108))))) none))))))) :=
  (seg_run false call meth F23.results 100000 [.code C23_7] _ M).symm.trans (by kernel_rfl)
theorem run23 (call : CallF) (meth : MethF) (x0_1a : Option (Nat × Nat)) (x0_1l : Nat) (x0_1c : Cap) (M : Mem) : run false call meth F23.results [.code F23.body] (frame0 F23 [.sl x0_1a x0_1l x0_1c]) M = p23_0 call meth x0_1a x0_1l x0_1c M := by kernel_rfl
theorem ok23 : okFn Try.prog 23 F23 = true := by kernel_rfl
/-! (*sallyport/share.Share).Clone -/
def C24_1 : AC := .ret
def C24_2 : AC := .seq (.reg (.op (some 20) (.mov (.t 0)) (.op (some 21) (.nilCk (.t 20)) (.op (some 22) (.fldA 1 (.t 21)) (.op (some 23) (.load1 .ptr (.t 22)) (.op (some 24) (.build [.bool false, .ptr none] [(0, 1, (.c (.bool true))), (1, 1, (.t 23))]) (.op (some 25) (.box (.t 24)) (.op (some 2) (.mov (.t 25)) (.op (some 3) (.mov (.c (.int .i64 0))) .nil)))))))) []) C24_1
def C24_3 : AC := .seq (.reg (.op (some 10) (.mov (.t 0)) (.op (some 11) (.nilCk (.t 10)) (.op (some 12) (.fldA 1 (.t 11)) (.op (some 13) (.load1 .ptr (.t 12)) (.op (some 14) (.nilCk (.t 13)) (.op (some 15) (.fldA 1 (.t 14)) (.op (some 16) (.load1 (.int .i64) (.t 15)) (.op (some 17) (.bin .add (.t 16) (.c (.int .i64 1))) (.op (some 18) (.nilCk (.t 13)) (.op (some 19) (.fldA 1 (.t 18)) (.op none (.store 1 (.t 19) (.t 17)) .nil))))))))))) []) C24_2
def C24_4 : AC := .ret
def C24_5 : AC := .cond (.t 8) (.seq (.reg (.op (some 9) (.mov (.t 4)) (.op (some 2) (.mov (.c (.ptr none))) (.op (some 3) (.mov (.t 9)) .nil))) []) C24_4) .skip
def C24_6 : AC := .seq (.reg (.op (some 7) (.mov (.t 4)) (.op (some 8) (.bin .neq (.t 7) (.c (.int .i64 0))) .nil)) []) C24_5
def C24_7 : AC := .seq (.seq (.reg (.op (some 5) (.mov (.t 0)) (.op (some 6) (.call 37 [(.t 5)] (.r (.one (.int .i64)))) (.op (some 4) (.mov (.t 6)) .nil))) []) C24_6) C24_3
def C24_8 : AC := .seq (.reg (.op (some 2) (.mov (.c (.ptr none))) (.op (some 3) (.mov (.c (.int .i64 0))) .nil)) []) C24_7
def F24 : AFunc := { ntmps := 26, results := [.tmp 2, .tmp 3], body := C24_8 }
noncomputable def p24_0 (call : CallF) (meth : MethF) (x0_1 : Option (Nat × Nat)) (M : Mem) : Option (AVal × Mem) := run false call meth F24.results [.code C24_8] [some (.ptr x0_1), none, none, none, none, none, none, none, none, none, none, none, none, none, none, none, none, none, none, none, none, none, none, none, none, none] M
theorem p24_0_eq (call : CallF) (meth : MethF) (x0_1 : Option (Nat × Nat)) (M : Mem) : p24_0 call meth x0_1 M = (Option.bind (call 37 [.ptr x0_1] M) fun r101 => (Option.bind (r101.1.int? .i64) fun x102 => (cond (x102 != 0) (some (.tup [.ptr none, .int .i64 x102], r101.2)) (Option.bind x0_1 fun p103 => (Option.bind (r101.2.ldP p103.1 (p103.2 + 1)) fun x104 => (Option.bind x104 fun p105 => (Option.bind (r101.2.ldI .i64 p105.1 (p105.2 + 1)) fun x106 => (Option.bind x104 fun p107 => (Option.bind (r101.2.st p107.1 (p107.2 + 1) [.int .i64 (IntKind.wrap .i64 (x106 + 1))]) fun M108 => (Option.bind x0_1 fun p109 => (Option.bind (M108.ldP p109.1 (p109.2 + 1)) fun x110 => (let M111 := M108.alloc ⟨[.bool true, .ptr x110], .fixed⟩; (some (.tup [.ptr (some (M108.n, 0)), .int .i64 0], M111)))))))))))))) :=
  (seg_run false call meth F24.results 100000 [.code C24_8] _ M).symm.trans (by kernel_rfl)
theorem run24 (call : CallF) (meth : MethF) (x0_1 : Option (Nat × Nat)) (M : Mem) : run false call meth F24.results [.code F24.body] (frame0 F24 [.ptr x0_1]) M = p24_0 call meth x0_1 M := by kernel_rfl
theorem ok24 : okFn Try.prog 24 F24 = true := by kernel_rfl
/-! (*sallyport/sallyportref04.Share).Clone -/
def C25_1 : AC := .ret
def C25_2 : AC := .seq (.reg (.op (some 22) (.mov (.t 0)) (.op (some 23) (.nilCk (.t 22)) (.op (some 24) (.fldA 0 (.t 23)) (.op (some 25) (.load1 .ptr (.t 24)) (.op (some 26) (.build [.ptr none, .bool false] [(0, 1, (.t 25))]) (.op (some 27) (.box (.t 26)) (.op (some 2) (.mov (.t 27)) (.op (some 3) (.mov (.c (.int .i64 0))) .nil)))))))) []) C25_1
def C25_3 : AC := .seq (.drw (.op (some 8) (.mov (.t 0)) (.op (some 9) (.nilCk (.t 8)) (.op (some 10) (.fldA 0 (.t 9)) (.op (some 11) (.load1 .ptr (.t 10)) (.op (some 12) (.mov (.t 0)) (.op (some 13) (.nilCk (.t 12)) (.op (some 14) (.fldA 0 (.t 13)) (.op (some 15) (.load1 .ptr (.t 14)) (.op (some 16) (.nilCk (.t 15)) (.op (some 17) (.fldA 1 (.t 16)) (.op (some 18) (.load1 (.int .i64) (.t 17)) (.op (some 19) (.bin .add (.t 18) (.c (.int .i64 1))) (.op (some 20) (.nilCk (.t 11)) (.op (some 21) (.fldA 1 (.t 20)) (.op none (.store 1 (.t 21) (.t 19)) .nil))))))))))))))) [] []) C25_2
def C25_4 : AC := .ret
def C25_5 : AC := .cond (.t 7) (.seq (.reg (.op (some 2) (.mov (.c (.ptr none))) (.op (some 3) (.mov (.c (.int .i64 40))) .nil)) []) C25_4) .skip
def C25_6 : AC := .seq (.seq (.reg (.op (some 4) (.mov (.t 0)) (.op (some 5) (.nilCk (.t 4)) (.op (some 6) (.fldA 1 (.t 5)) (.op (some 7) (.load1 .bool (.t 6)) .nil)))) []) C25_5) C25_3
def C25_7 : AC := .seq (.reg (.op (some 2) (.mov (.c (.ptr none))) (.op (some 3) (.mov (.c (.int .i64 0))) .nil)) []) C25_6
def F25 : AFunc := { ntmps := 28, results := [.tmp 2, .tmp 3], body := C25_7 }
noncomputable def p25_0 (call : CallF) (meth : MethF) (x0_1 : Option (Nat × Nat)) (M : Mem) : Option (AVal × Mem) := run false call meth F25.results [.code C25_7] [some (.ptr x0_1), none, none, none, none, none, none, none, none, none, none, none, none, none, none, none, none, none, none, none, none, none, none, none, none, none, none, none] M
theorem p25_0_eq (call : CallF) (meth : MethF) (x0_1 : Option (Nat × Nat)) (M : Mem) : p25_0 call meth x0_1 M = (Option.bind x0_1 fun p101 => (Option.bind (M.ldB p101.1 (p101.2 + 1)) fun x102 => (cond x102 (some (.tup [.ptr none, .int .i64 40], M)) (Option.bind x0_1 fun p103 => (Option.bind (M.ldP p103.1 (p103.2 + 0)) fun x104 => (Option.bind x0_1 fun p105 => (Option.bind (M.ldP p105.1 (p105.2 + 0)) fun x106 => (Option.bind x106 fun p107 => (Option.bind (M.ldI .i64 p107.1 (p107.2 + 1)) fun x108 => (Option.bind x104 fun p109 => (Option.bind (M.st p109.1 (p109.2 + 1) [.int .i64 (IntKind.wrap .i64 (x108 + 1))]) fun M110 => (Option.bind x0_1 fun p111 => (Option.bind (M110.ldP p111.1 (p111.2 + 0)) fun x112 => (let M113 := M110.alloc ⟨[.ptr x112, .bool false], .fixed⟩; (some (.tup [.ptr (some (M110.n, 0)), .int .i64 0], M113)))))))))))))))) :=
  (seg_run false call meth F25.results 100000 [.code C25_7] _ M).symm.trans (by kernel_rfl)
theorem run25 (call : CallF) (meth : MethF) (x0_1 : Option (Nat × Nat)) (M : Mem) : run false call meth F25.results [.code F25.body] (frame0 F25 [.ptr x0_1]) M = p25_0 call meth x0_1 M := by kernel_rfl
theorem ok25 : okFn Try.prog 25 F25 = true := by kernel_rfl
/-! (*sallyport/sallyportref04.Share).Bytes -/
def C27_1 : AC := .ret
def C27_2 : AC := .seq (.reg (.op (some 7) (.mov (.t 0)) (.op (some 8) (.nilCk (.t 7)) (.op (some 9) (.fldA 0 (.t 8)) (.op (some 10) (.load1 .ptr (.t 9)) (.op (some 11) (.nilCk (.t 10)) (.op (some 12) (.fldA 0 (.t 11)) (.op (some 13) (.load1 .ptr (.t 12)) (.op (some 14) (.call 46 [(.t 13)] (.r (.one .sl))) (.op (some 2) (.mov (.t 14)) .nil))))))))) []) C27_1
def C27_3 : AC := .ret
def C27_4 : AC := .cond (.t 6) (.seq (.reg (.op (some 2) (.mov (.c (.sl none 0 (.known 0)))) .nil) []) C27_3) .skip
def C27_5 : AC := .seq (.seq (.reg (.op (some 3) (.mov (.t 0)) (.op (some 4) (.nilCk (.t 3)) (.op (some 5) (.fldA 1 (.t 4)) (.op (some 6) (.load1 .bool (.t 5)) .nil)))) []) C27_4) C27_2
def C27_6 : AC := .seq (.reg (.op (some 2) (.mov (.c (.sl none 0 (.known 0)))) .nil) []) C27_5
def F27 : AFunc := { ntmps := 15, results := [.tmp 2], body := C27_6 }
noncomputable def p27_0 (call : CallF) (meth : MethF) (x0_1 : Option (Nat × Nat)) (M : Mem) : Option (AVal × Mem) := run false call meth F27.results [.code C27_6] [some (.ptr x0_1), none, none, none, none, none, none, none, none, none, none, none, none, none, none] M
theorem p27_0_eq (call : CallF) (meth : MethF) (x0_1 : Option (Nat × Nat)) (M : Mem) : p27_0 call meth x0_1 M = (Option.bind x0_1 fun p101 => (Option.bind (M.ldB p101.1 (p101.2 + 1)) fun x102 => (cond x102 (some (.sl none 0 (.known 0), M)) (Option.bind x0_1 fun p103 => (Option.bind (M.ldP p103.1 (p103.2 + 0)) fun x104 => (Option.bind x104 fun p105 => (Option.bind (M.ldP p105.1 (p105.2 + 0)) fun x106 => (Option.bind (call 46 [.ptr x106] M) fun r107 => (Option.bind (r107.1.sl?) fun x108 => (some (.sl x108.1 x108.2.1 x108.2.2, r107.2))))))))))) :=
  (seg_run false call meth F27.results 100000 [.code C27_6] _ M).symm.trans (by kernel_rfl)
theorem run27 (call : CallF) (meth : MethF) (x0_1 : Option (Nat × Nat)) (M : Mem) : run false call meth F27.results [.code F27.body] (frame0 F27 [.ptr x0_1]) M = p27_0 call meth x0_1 M := by kernel_rfl
theorem ok27 : okFn Try.prog 27 F27 = true := by kernel_rfl
/-! (*sallyport/share.Share).Count -/
def C28_1 : AC := .ret
def C28_2 : AC := .seq (.reg (.op (some 6) (.mov (.t 0)) (.op (some 7) (.nilCk (.t 6)) (.op (some 8) (.fldA 1 (.t 7)) (.op (some 9) (.load1 .ptr (.t 8)) (.op (some 10) (.nilCk (.t 9)) (.op (some 11) (.fldA 1 (.t 10)) (.op (some 12) (.load1 (.int .i64) (.t 11)) (.op (some 2) (.mov (.t 12)) .nil)))))))) []) C28_1
def C28_3 : AC := .ret
def C28_4 : AC := .cond (.t 5) (.seq (.reg (.op (some 2) (.mov (.c (.int .i64 0))) .nil) []) C28_3) .skip
def C28_5 : AC := .seq (.seq (.reg (.op (some 3) (.mov (.t 0)) (.op (some 4) (.call 37 [(.t 3)] (.r (.one (.int .i64)))) (.op (some 5) (.bin .neq (.t 4) (.c (.int .i64 0))) .nil))) []) C28_4) C28_2
def C28_6 : AC := .seq (.reg (.op (some 2) (.mov (.c (.int .i64 0))) .nil) []) C28_5
def F28 : AFunc := { ntmps := 13, results := [.tmp 2], body := C28_6 }
noncomputable def p28_0 (call : CallF) (meth : MethF) (x0_1 : Option (Nat × Nat)) (M : Mem) : Option (AVal × Mem) := run false call meth F28.results [.code C28_6] [some (.ptr x0_1), none, none, none, none, none, none, none, none, none, none, none, none] M
theorem p28_0_eq (call : CallF) (meth : MethF) (x0_1 : Option (Nat × Nat)) (M : Mem) : p28_0 call meth x0_1 M = (Option.bind (call 37 [.ptr x0_1] M) fun r101 => (Option.bind (r101.1.int? .i64) fun x102 => (cond (x102 != 0) (some (.int .i64 0, r101.2)) (Option.bind x0_1 fun p103 => (Option.bind (r101.2.ldP p103.1 (p103.2 + 1)) fun x104 => (Option.bind x104 fun p105 => (Option.bind (r101.2.ldI .i64 p105.1 (p105.2 + 1)) fun x106 => (some (.int .i64 x106, r101.2))))))))) :=
  (seg_run false call meth F28.results 100000 [.code C28_6] _ M).symm.trans (by kernel_rfl)
theorem run28 (call : CallF) (meth : MethF) (x0_1 : Option (Nat × Nat)) (M : Mem) : run false call meth F28.results [.code F28.body] (frame0 F28 [.ptr x0_1]) M = p28_0 call meth x0_1 M := by kernel_rfl
theorem ok28 : okFn Try.prog 28 F28 = true := by kernel_rfl
/-! (*sallyport/sallyportref04.Share).Count -/
def C29_1 : AC := .ret
def C29_2 : AC := .seq (.reg (.op (some 7) (.mov (.t 0)) (.op (some 8) (.nilCk (.t 7)) (.op (some 9) (.fldA 0 (.t 8)) (.op (some 10) (.load1 .ptr (.t 9)) (.op (some 11) (.nilCk (.t 10)) (.op (some 12) (.fldA 1 (.t 11)) (.op (some 13) (.load1 (.int .i64) (.t 12)) (.op (some 2) (.mov (.t 13)) .nil)))))))) []) C29_1
def C29_3 : AC := .ret
def C29_4 : AC := .cond (.t 6) (.seq (.reg (.op (some 2) (.mov (.c (.int .i64 0))) .nil) []) C29_3) .skip
def C29_5 : AC := .seq (.seq (.reg (.op (some 3) (.mov (.t 0)) (.op (some 4) (.nilCk (.t 3)) (.op (some 5) (.fldA 1 (.t 4)) (.op (some 6) (.load1 .bool (.t 5)) .nil)))) []) C29_4) C29_2
def C29_6 : AC := .seq (.reg (.op (some 2) (.mov (.c (.int .i64 0))) .nil) []) C29_5
def F29 : AFunc := { ntmps := 14, results := [.tmp 2], body := C29_6 }
noncomputable def p29_0 (call : CallF) (meth : MethF) (x0_1 : Option (Nat × Nat)) (M : Mem) : Option (AVal × Mem) := run false call meth F29.results [.code C29_6] [some (.ptr x0_1), none, none, none, none, none, none, none, none, none, none, none, none, none] M
theorem p29_0_eq (call : CallF) (meth : MethF) (x0_1 : Option (Nat × Nat)) (M : Mem) : p29_0 call meth x0_1 M = (Option.bind x0_1 fun p101 => (Option.bind (M.ldB p101.1 (p101.2 + 1)) fun x102 => (cond x102 (some (.int .i64 0, M)) (Option.bind x0_1 fun p103 => (Option.bind (M.ldP p103.1 (p103.2 + 0)) fun x104 => (Option.bind x104 fun p105 => (Option.bind (M.ldI .i64 p105.1 (p105.2 + 1)) fun x106 => (some (.int .i64 x106, M))))))))) :=
  (seg_run false call meth F29.results 100000 [.code C29_6] _ M).symm.trans (by kernel_rfl)
theorem run29 (call : CallF) (meth : MethF) (x0_1 : Option (Nat × Nat)) (M : Mem) : run false call meth F29.results [.code F29.body] (frame0 F29 [.ptr x0_1]) M = p29_0 call meth x0_1 M := by kernel_rfl
theorem ok29 : okFn Try.prog 29 F29 = true := by kernel_rfl
/-! (*sallyport/share.Share).Store -/
def C30_1 : AC := .ret
def C30_2 : AC := .seq (.reg (.op (some 31) (.mov (.t 11)) (.op (some 32) (.mov (.t 1)) (.op (some 33) (.mov (.t 2)) (.op (some 34) (.mov (.t 3)) (.op (some 35) (.call 47 [(.t 31), (.t 32), (.t 33), (.t 34)] (.r (.one (.int .i64)))) (.op (some 8) (.mov (.t 35)) .nil)))))) []) C30_1
def C30_3 : AC := .ret
def C30_4 : AC := .cond (.t 29) (.seq (.reg (.op (some 30) (.mov (.t 12)) (.op (some 8) (.mov (.t 30)) .nil)) []) C30_3) .skip
def C30_5 : AC := .seq (.seq (.reg (.op (some 28) (.mov (.t 12)) (.op (some 29) (.bin .neq (.t 28) (.c (.int .i64 0))) .nil)) []) C30_4) C30_2
def C30_6 : AC := .seq (.reg (.op (some 24) (.mov (.t 0)) (.op (some 25) (.call 34 [(.t 24)] (.tup [.one .ptr, .one (.int .i64)])) (.op (some 23) (.mov (.t 25)) (.op (some 26) (.ext (.t 23) 0) (.op (some 27) (.ext (.t 23) 1) (.op (some 11) (.mov (.t 26)) (.op (some 12) (.mov (.t 27)) .nil))))))) []) C30_5
def C30_7 : AC := .ret
def C30_8 : AC := .cond (.t 21) (.seq (.reg (.op (some 22) (.mov (.t 10)) (.op (some 8) (.mov (.t 22)) .nil)) []) C30_7) .skip
def C30_9 : AC := .seq (.reg (.op (some 20) (.mov (.t 10)) (.op (some 21) (.bin .neq (.t 20) (.c (.int .i64 0))) .nil)) []) C30_8
def C30_10 : AC := .seq (.seq (.reg (.op (some 14) (.mov (.t 0)) (.op (some 15) (.mov (.t 1)) (.op (some 16) (.mov (.t 2)) (.op (some 17) (.call 32 [(.t 14), (.t 15), (.t 16)] (.tup [.one (.int .u64), .one (.int .i64)])) (.op (some 13) (.mov (.t 17)) (.op (some 18) (.ext (.t 13) 0) (.op (some 19) (.ext (.t 13) 1) (.op (some 9) (.mov (.t 18)) (.op (some 10) (.mov (.t 19)) .nil))))))))) []) C30_9) C30_6
def C30_11 : AC := .seq (.reg (.op (some 8) (.mov (.c (.int .i64 0))) .nil) []) C30_10
def F30 : AFunc := { ntmps := 36, results := [.tmp 8], body := C30_11 }
noncomputable def p30_0 (call : CallF) (meth : MethF) (x0_1 : Option (Nat × Nat)) (x1_2 : Int) (x2_3 : Int) (x3_4 : Int) (M : Mem) : Option (AVal × Mem) := run false call meth F30.results [.code C30_11] [some (.ptr x0_1), some (.int .i64 x1_2), some (.int .i64 x2_3), some (.int .u64 x3_4), none, none, none, none, none, none, none, none, none, none, none, none, none, none, none, none, none, none, none, none, none, none, none, none, none, none, none, none, none, none, none, none] M
theorem p30_0_eq (call : CallF) (meth : MethF) (x0_1 : Option (Nat × Nat)) (x1_2 : Int) (x2_3 : Int) (x3_4 : Int) (M : Mem) : p30_0 call meth x0_1 x1_2 x2_3 x3_4 M = (Option.bind (call 32 [.ptr x0_1, .int .i64 x1_2, .int .i64 x2_3] M) fun r101 => (Option.bind r101.1.tup? fun l102 => (Option.bind l102.head? fun v103 => (Option.bind (v103.int? .u64) fun x104 => (Option.bind l102.tail.head? fun v105 => (Option.bind (v105.int? .i64) fun x106 => (cond l102.tail.tail.isEmpty (cond (x106 != 0) (some (.int .i64 x106, r101.2)) (Option.bind (call 34 [.ptr x0_1] r101.2) fun r107 => (Option.bind r107.1.tup? fun l108 => (Option.bind l108.head? fun v109 => (Option.bind (v109.ptr?) fun x110 => (Option.bind l108.tail.head? fun v111 => (Option.bind (v111.int? .i64) fun x112 => (cond l108.tail.tail.isEmpty (cond (x112 != 0) (some (.int .i64 x112, r107.2)) (Option.bind (call 47 [.ptr x110, .int .i64 x1_2, .int .i64 x2_3, .int .u64 x3_4] r107.2) fun r113 => (Option.bind (r113.1.int? .i64) fun x114 => (some (.int .i64 x114, r113.2))))) none)))))))) none))))))) :=
  (seg_run false call meth F30.results 100000 [.code C30_11] _ M).symm.trans (by kernel_rfl)
theorem run30 (call : CallF) (meth : MethF) (x0_1 : Option (Nat × Nat)) (x1_2 : Int) (x2_3 : Int) (x3_4 : Int) (M : Mem) : run false call meth F30.results [.code F30.body] (frame0 F30 [.ptr x0_1, .int .i64 x1_2, .int .i64 x2_3, .int .u64 x3_4]) M = p30_0 call meth x0_1 x1_2 x2_3 x3_4 M := by kernel_rfl
theorem ok30 : okFn Try.prog 30 F30 = true := by kernel_rfl
/-! sallyport/share.made -/
def C31_1 : AC := .ret
def C31_2 : AC := .seq (.reg (.op (some 14) (.mov (.t 4)) (.op (some 15) (.build [.ptr none, .int .i64 0] [(0, 1, (.t 14)), (1, 1, (.c (.int .i64 1)))]) (.op (some 16) (.box (.t 15)) (.op (some 2) (.mov (.t 16)) (.op (some 3) (.mov (.c (.int .i64 0))) .nil))))) []) C31_1
def C31_3 : AC := .ret
def C31_4 : AC := .cond (.t 12) (.seq (.reg (.op (some 13) (.mov (.t 5)) (.op (some 2) (.mov (.c (.ptr none))) (.op (some 3) (.mov (.t 13)) .nil))) []) C31_3) .skip
def C31_5 : AC := .seq (.seq (.reg (.op (some 11) (.mov (.t 5)) (.op (some 12) (.bin .neq (.t 11) (.c (.int .i64 0))) .nil)) []) C31_4) C31_2
def C31_6 : AC := .seq (.reg (.op (some 7) (.mov (.t 0)) (.op (some 8) (.call 48 [(.t 7), (.c (.int .i64 64)), (.c (.int .i64 64))] (.tup [.one .ptr, .one (.int .i64)])) (.op (some 6) (.mov (.t 8)) (.op (some 9) (.ext (.t 6) 0) (.op (some 10) (.ext (.t 6) 1) (.op (some 4) (.mov (.t 9)) (.op (some 5) (.mov (.t 10)) .nil))))))) []) C31_5
def C31_7 : AC := .seq (.reg (.op (some 2) (.mov (.c (.ptr none))) (.op (some 3) (.mov (.c (.int .i64 0))) .nil)) []) C31_6
def F31 : AFunc := { ntmps := 17, results := [.tmp 2, .tmp 3], body := C31_7 }
noncomputable def p31_0 (call : CallF) (meth : MethF) (x0_1a : Option (Nat × Nat)) (x0_1l : Nat) (x0_1c : Cap) (M : Mem) : Option (AVal × Mem) := run false call meth F31.results [.code C31_7] [some (.sl x0_1a x0_1l x0_1c), none, none, none, none, none, none, none, none, none, none, none, none, none, none, none, none] M
theorem p31_0_eq (call : CallF) (meth : MethF) (x0_1a : Option (Nat × Nat)) (x0_1l : Nat) (x0_1c : Cap) (M : Mem) : p31_0 call meth x0_1a x0_1l x0_1c M = (Option.bind (call 48 [.sl x0_1a x0_1l x0_1c, .int .i64 64, .int .i64 64] M) fun r101 => (Option.bind r101.1.tup? fun l102 => (Option.bind l102.head? fun v103 => (Option.bind (v103.ptr?) fun x104 => (Option.bind l102.tail.head? fun v105 => (Option.bind (v105.int? .i64) fun x106 => (cond l102.tail.tail.isEmpty (cond (x106 != 0) (some (.tup [.ptr none, .int .i64 x106], r101.2)) (let M107 := r101.2.alloc ⟨[.ptr x104, .int .i64 1], .fixed⟩; (some (.tup [.ptr (some (r101.2.n, 0)), .int .i64 0], M107)))) none))))))) :=
  (seg_run false call meth F31.results 100000 [.code C31_7] _ M).symm.trans (by kernel_rfl)
theorem run31 (call : CallF) (meth : MethF) (x0_1a : Option (Nat × Nat)) (x0_1l : Nat) (x0_1c : Cap) (M : Mem) : run false call meth F31.results [.code F31.body] (frame0 F31 [.sl x0_1a x0_1l x0_1c]) M = p31_0 call meth x0_1a x0_1l x0_1c M := by kernel_rfl
theorem ok31 : okFn Try.prog 31 F31 = true := by kernel_rfl
/-! (*sallyport/share.Share).Load -/
def C32_1 : AC := .ret
def C32_2 : AC := .seq (.reg (.op (some 14) (.mov (.t 0)) (.op (some 15) (.nilCk (.t 14)) (.op (some 16) (.fldA 1 (.t 15)) (.op (some 17) (.load1 .ptr (.t 16)) (.op (some 18) (.nilCk (.t 17)) (.op (some 19) (.fldA 0 (.t 18)) (.op (some 20) (.load1 .ptr (.t 19)) (.op (some 21) (.mov (.t 1)) (.op (some 22) (.mov (.t 2)) (.op (some 23) (.call 49 [(.t 20), (.t 21), (.t 22)] (.tup [.one (.int .u64), .one (.int .i64)])) (.op (some 24) (.ext (.t 23) 0) (.op (some 25) (.ext (.t 23) 1) (.op (some 6) (.mov (.t 24)) (.op (some 7) (.mov (.t 25)) .nil)))))))))))))) []) C32_1
def C32_3 : AC := .ret
def C32_4 : AC := .cond (.t 12) (.seq (.reg (.op (some 13) (.mov (.t 8)) (.op (some 6) (.mov (.c (.int .u64 0))) (.op (some 7) (.mov (.t 13)) .nil))) []) C32_3) .skip
def C32_5 : AC := .seq (.reg (.op (some 11) (.mov (.t 8)) (.op (some 12) (.bin .neq (.t 11) (.c (.int .i64 0))) .nil)) []) C32_4
def C32_6 : AC := .seq (.seq (.reg (.op (some 9) (.mov (.t 0)) (.op (some 10) (.call 37 [(.t 9)] (.r (.one (.int .i64)))) (.op (some 8) (.mov (.t 10)) .nil))) []) C32_5) C32_2
def C32_7 : AC := .seq (.reg (.op (some 6) (.mov (.c (.int .u64 0))) (.op (some 7) (.mov (.c (.int .i64 0))) .nil)) []) C32_6
def F32 : AFunc := { ntmps := 26, results := [.tmp 6, .tmp 7], body := C32_7 }
noncomputable def p32_0 (call : CallF) (meth : MethF) (x0_1 : Option (Nat × Nat)) (x1_2 : Int) (x2_3 : Int) (M : Mem) : Option (AVal × Mem) := run false call meth F32.results [.code C32_7] [some (.ptr x0_1), some (.int .i64 x1_2), some (.int .i64 x2_3), none, none, none, none, none, none, none, none, none, none, none, none, none, none, none, none, none, none, none, none, none, none, none] M
theorem p32_0_eq (call : CallF) (meth : MethF) (x0_1 : Option (Nat × Nat)) (x1_2 : Int) (x2_3 : Int) (M : Mem) : p32_0 call meth x0_1 x1_2 x2_3 M = (Option.bind (call 37 [.ptr x0_1] M) fun r101 => (Option.bind (r101.1.int? .i64) fun x102 => (cond (x102 != 0) (some (.tup [.int .u64 0, .int .i64 x102], r101.2)) (Option.bind x0_1 fun p103 => (Option.bind (r101.2.ldP p103.1 (p103.2 + 1)) fun x104 => (Option.bind x104 fun p105 => (Option.bind (r101.2.ldP p105.1 (p105.2 + 0)) fun x106 => (Option.bind (call 49 [.ptr x106, .int .i64 x1_2, .int .i64 x2_3] r101.2) fun r107 => (Option.bind r107.1.tup? fun l108 => (Option.bind l108.head? fun v109 => (Option.bind (v109.int? .u64) fun x110 => (Option.bind l108.tail.head? fun v111 => (Option.bind (v111.int? .i64) fun x112 => (cond l108.tail.tail.isEmpty (some (.tup [.int .u64 x110, .int .i64 x112], r107.2)) none)))))))))))))) :=
  (seg_run false call meth F32.results 100000 [.code C32_7] _ M).symm.trans (by kernel_rfl)
theorem run32 (call : CallF) (meth : MethF) (x0_1 : Option (Nat × Nat)) (x1_2 : Int) (x2_3 : Int) (M : Mem) : run false call meth F32.results [.code F32.body] (frame0 F32 [.ptr x0_1, .int .i64 x1_2, .int .i64 x2_3]) M = p32_0 call meth x0_1 x1_2 x2_3 M := by kernel_rfl
theorem ok32 : okFn Try.prog 32 F32 = true := by kernel_rfl
/-! (*sallyport/share.Share).Len -/
def C33_1 : AC := .ret
def C33_2 : AC := .seq (.reg (.op (some 6) (.mov (.t 0)) (.op (some 7) (.nilCk (.t 6)) (.op (some 8) (.fldA 1 (.t 7)) (.op (some 9) (.load1 .ptr (.t 8)) (.op (some 10) (.nilCk (.t 9)) (.op (some 11) (.fldA 0 (.t 10)) (.op (some 12) (.load1 .ptr (.t 11)) (.op (some 13) (.call 50 [(.t 12)] (.r (.one (.int .i64)))) (.op (some 2) (.mov (.t 13)) .nil))))))))) []) C33_1
def C33_3 : AC := .ret
def C33_4 : AC := .cond (.t 5) (.seq (.reg (.op (some 2) (.mov (.c (.int .i64 0))) .nil) []) C33_3) .skip
def C33_5 : AC := .seq (.seq (.reg (.op (some 3) (.mov (.t 0)) (.op (some 4) (.call 37 [(.t 3)] (.r (.one (.int .i64)))) (.op (some 5) (.bin .neq (.t 4) (.c (.int .i64 0))) .nil))) []) C33_4) C33_2
def C33_6 : AC := .seq (.reg (.op (some 2) (.mov (.c (.int .i64 0))) .nil) []) C33_5
def F33 : AFunc := { ntmps := 14, results := [.tmp 2], body := C33_6 }
noncomputable def p33_0 (call : CallF) (meth : MethF) (x0_1 : Option (Nat × Nat)) (M : Mem) : Option (AVal × Mem) := run false call meth F33.results [.code C33_6] [some (.ptr x0_1), none, none, none, none, none, none, none, none, none, none, none, none, none] M
theorem p33_0_eq (call : CallF) (meth : MethF) (x0_1 : Option (Nat × Nat)) (M : Mem) : p33_0 call meth x0_1 M = (Option.bind (call 37 [.ptr x0_1] M) fun r101 => (Option.bind (r101.1.int? .i64) fun x102 => (cond (x102 != 0) (some (.int .i64 0, r101.2)) (Option.bind x0_1 fun p103 => (Option.bind (r101.2.ldP p103.1 (p103.2 + 1)) fun x104 => (Option.bind x104 fun p105 => (Option.bind (r101.2.ldP p105.1 (p105.2 + 0)) fun x106 => (Option.bind (call 50 [.ptr x106] r101.2) fun r107 => (Option.bind (r107.1.int? .i64) fun x108 => (some (.int .i64 x108, r107.2))))))))))) :=
  (seg_run false call meth F33.results 100000 [.code C33_6] _ M).symm.trans (by kernel_rfl)
theorem run33 (call : CallF) (meth : MethF) (x0_1 : Option (Nat × Nat)) (M : Mem) : run false call meth F33.results [.code F33.body] (frame0 F33 [.ptr x0_1]) M = p33_0 call meth x0_1 M := by kernel_rfl
theorem ok33 : okFn Try.prog 33 F33 = true := by kernel_rfl
/-! (*sallyport/share.Share).Own -/
def C34_1 : AC := .ret
def C34_2 : AC := .seq (.reg (.op (some 49) (.mov (.t 0)) (.op (some 50) (.nilCk (.t 49)) (.op (some 51) (.fldA 1 (.t 50)) (.op (some 52) (.load1 .ptr (.t 51)) (.op (some 53) (.nilCk (.t 52)) (.op (some 54) (.fldA 0 (.t 53)) (.op (some 55) (.load1 .ptr (.t 54)) (.op (some 2) (.mov (.t 55)) (.op (some 3) (.mov (.c (.int .i64 0))) .nil))))))))) []) C34_1
def C34_3 : AC := .kil [1, 2, 3, 4, 5, 6, 7, 8, 9, 10, 11, 12, 13, 14, 15, 16, 17, 18, 19, 20, 21, 22, 23, 24, 25, 26, 27, 28, 29, 30, 31, 32, 33, 34, 35, 36, 37, 38, 39, 40, 41, 42, 43, 44, 45, 46, 47, 48, 49, 50, 51, 52, 53, 54, 55] (.pt C34_2)
def C34_4 : AC := .reg (.op (some 45) (.mov (.t 0)) (.op (some 46) (.mov (.t 5)) (.op (some 47) (.nilCk (.t 45)) (.op (some 48) (.fldA 1 (.t 47)) (.op none (.store 1 (.t 48) (.t 46)) .nil))))) []
def C34_5 : AC := .seq (.reg (.op (some 35) (.mov (.t 0)) (.op (some 36) (.nilCk (.t 35)) (.op (some 37) (.fldA 1 (.t 36)) (.op (some 38) (.load1 .ptr (.t 37)) (.op (some 39) (.nilCk (.t 38)) (.op (some 40) (.fldA 1 (.t 39)) (.op (some 41) (.load1 (.int .i64) (.t 40)) (.op (some 42) (.bin .sub (.t 41) (.c (.int .i64 1))) (.op (some 43) (.nilCk (.t 38)) (.op (some 44) (.fldA 1 (.t 43)) (.op none (.store 1 (.t 44) (.t 42)) .nil))))))))))) []) C34_4
def C34_6 : AC := .ret
def C34_7 : AC := .cond (.t 33) (.seq (.reg (.op (some 34) (.mov (.t 6)) (.op (some 2) (.mov (.c (.ptr none))) (.op (some 3) (.mov (.t 34)) .nil))) []) C34_6) .skip
def C34_8 : AC := .seq (.seq (.reg (.op (some 32) (.mov (.t 6)) (.op (some 33) (.bin .neq (.t 32) (.c (.int .i64 0))) .nil)) []) C34_7) C34_5
def C34_9 : AC := .seq (.reg (.op (some 21) (.mov (.t 0)) (.op (some 22) (.nilCk (.t 21)) (.op (some 23) (.fldA 1 (.t 22)) (.op (some 24) (.load1 .ptr (.t 23)) (.op (some 25) (.nilCk (.t 24)) (.op (some 26) (.fldA 0 (.t 25)) (.op (some 27) (.load1 .ptr (.t 26)) (.op (some 28) (.call 36 [(.t 27)] (.r (.one .sl))) (.op (some 29) (.call 31 [(.t 28)] (.tup [.one .ptr, .one (.int .i64)])) (.op (some 20) (.mov (.t 29)) (.op (some 30) (.ext (.t 20) 0) (.op (some 31) (.ext (.t 20) 1) (.op (some 5) (.mov (.t 30)) (.op (some 6) (.mov (.t 31)) .nil)))))))))))))) []) C34_8
def C34_10 : AC := .cond (.t 19) (.kil [1, 2, 3, 4, 5, 6, 7, 8, 9, 10, 11, 12, 13, 14, 15, 16, 17, 18, 19, 20, 21, 22, 23, 24, 25, 26, 27, 28, 29, 30, 31, 32, 33, 34, 35, 36, 37, 38, 39, 40, 41, 42, 43, 44, 45, 46, 47, 48, 49, 50, 51, 52, 53, 54, 55] (.pt C34_9)) .skip
def C34_11 : AC := .seq (.seq (.reg (.op (some 12) (.mov (.t 0)) (.op (some 13) (.nilCk (.t 12)) (.op (some 14) (.fldA 1 (.t 13)) (.op (some 15) (.load1 .ptr (.t 14)) (.op (some 16) (.nilCk (.t 15)) (.op (some 17) (.fldA 1 (.t 16)) (.op (some 18) (.load1 (.int .i64) (.t 17)) (.op (some 19) (.bin .gtr (.t 18) (.c (.int .i64 1))) .nil)))))))) []) C34_10) C34_3
def C34_12 : AC := .ret
def C34_13 : AC := .cond (.t 10) (.seq (.reg (.op (some 11) (.mov (.t 4)) (.op (some 2) (.mov (.c (.ptr none))) (.op (some 3) (.mov (.t 11)) .nil))) []) C34_12) .skip
def C34_14 : AC := .seq (.reg (.op (some 9) (.mov (.t 4)) (.op (some 10) (.bin .neq (.t 9) (.c (.int .i64 0))) .nil)) []) C34_13
def C34_15 : AC := .seq (.seq (.reg (.op (some 7) (.mov (.t 0)) (.op (some 8) (.call 37 [(.t 7)] (.r (.one (.int .i64)))) (.op (some 4) (.mov (.t 8)) .nil))) []) C34_14) C34_11
def C34_16 : AC := .seq (.reg (.op (some 2) (.mov (.c (.ptr none))) (.op (some 3) (.mov (.c (.int .i64 0))) .nil)) []) C34_15
def F34 : AFunc := { ntmps := 56, results := [.tmp 2, .tmp 3], body := C34_16 }
noncomputable def p34_0 (call : CallF) (meth : MethF) (x0_1 : Option (Nat × Nat)) (M : Mem) : Option (AVal × Mem) := run false call meth F34.results [.code C34_16] [some (.ptr x0_1), none, none, none, none, none, none, none, none, none, none, none, none, none, none, none, none, none, none, none, none, none, none, none, none, none, none, none, none, none, none, none, none, none, none, none, none, none, none, none, none, none, none, none, none, none, none, none, none, none, none, none, none, none, none, none] M
noncomputable def p34_1 (call : CallF) (meth : MethF) (x0_107 : Option (Nat × Nat)) (M : Mem) : Option (AVal × Mem) := run false call meth F34.results [.code C34_9, .code C34_3] [some (.ptr x0_107), none, none, none, none, none, none, none, none, none, none, none, none, none, none, none, none, none, none, none, none, none, none, none, none, none, none, none, none, none, none, none, none, none, none, none, none, none, none, none, none, none, none, none, none, none, none, none, none, none, none, none, none, none, none, none] M
noncomputable def p34_2 (call : CallF) (meth : MethF) (x0_108 : Option (Nat × Nat)) (M : Mem) : Option (AVal × Mem) := run false call meth F34.results [.code C34_2] [some (.ptr x0_108), none, none, none, none, none, none, none, none, none, none, none, none, none, none, none, none, none, none, none, none, none, none, none, none, none, none, none, none, none, none, none, none, none, none, none, none, none, none, none, none, none, none, none, none, none, none, none, none, none, none, none, none, none, none, none] M
theorem p34_0_eq (call : CallF) (meth : MethF) (x0_1 : Option (Nat × Nat)) (M : Mem) : p34_0 call meth x0_1 M = (Option.bind (call 37 [.ptr x0_1] M) fun r101 => (Option.bind (r101.1.int? .i64) fun x102 => (cond (x102 != 0) (some (.tup [.ptr none, .int .i64 x102], r101.2)) (Option.bind x0_1 fun p103 => (Option.bind (r101.2.ldP p103.1 (p103.2 + 1)) fun x104 => (Option.bind x104 fun p105 => (Option.bind (r101.2.ldI .i64 p105.1 (p105.2 + 1)) fun x106 => (cond (decide (x106 > 1)) (p34_1 call meth x0_1 r101.2) (p34_2 call meth x0_1 r101.2))))))))) :=
  (seg_run false call meth F34.results 100000 [.code C34_16] _ M).symm.trans (by kernel_rfl)
theorem p34_1_eq (call : CallF) (meth : MethF) (x0_107 : Option (Nat × Nat)) (M : Mem) : p34_1 call meth x0_107 M = (Option.bind x0_107 fun p201 => (Option.bind (M.ldP p201.1 (p201.2 + 1)) fun x202 => (Option.bind x202 fun p203 => (Option.bind (M.ldP p203.1 (p203.2 + 0)) fun x204 => (Option.bind (call 36 [.ptr x204] M) fun r205 => (Option.bind (r205.1.sl?) fun x206 => (Option.bind (call 31 [.sl x206.1 x206.2.1 x206.2.2] r205.2) fun r207 => (Option.bind r207.1.tup? fun l208 => (Option.bind l208.head? fun v209 => (Option.bind (v209.ptr?) fun x210 => (Option.bind l208.tail.head? fun v211 => (Option.bind (v211.int? .i64) fun x212 => (cond l208.tail.tail.isEmpty (cond (x212 != 0) (some (.tup [.ptr none, .int .i64 x212], r207.2)) (Option.bind x0_107 fun p213 => (Option.bind (r207.2.ldP p213.1 (p213.2 + 1)) fun x214 => (Option.bind x214 fun p215 => (Option.bind (r207.2.ldI .i64 p215.1 (p215.2 + 1)) fun x216 => (Option.bind x214 fun p217 => (Option.bind (r207.2.st p217.1 (p217.2 + 1) [.int .i64 (IntKind.wrap .i64 (x216 - 1))]) fun M218 => (Option.bind x0_107 fun p219 => (Option.bind (M218.st p219.1 (p219.2 + 1) [.ptr x210]) fun M220 => (p34_2 call meth x0_107 M220)))))))))) none))))))))))))) :=
  (seg_run false call meth F34.results 100000 [.code C34_9, .code C34_3] _ M).symm.trans (by kernel_rfl)
theorem p34_2_eq (call : CallF) (meth : MethF) (x0_108 : Option (Nat × Nat)) (M : Mem) : p34_2 call meth x0_108 M = (Option.bind x0_108 fun p301 => (Option.bind (M.ldP p301.1 (p301.2 + 1)) fun x302 => (Option.bind x302 fun p303 => (Option.bind (M.ldP p303.1 (p303.2 + 0)) fun x304 => (some (.tup [.ptr x304, .int .i64 0], M)))))) :=
  (seg_run false call meth F34.results 100000 [.code C34_2] _ M).symm.trans (by kernel_rfl)
theorem run34 (call : CallF) (meth : MethF) (x0_1 : Option (Nat × Nat)) (M : Mem) : run false call meth F34.results [.code F34.body] (frame0 F34 [.ptr x0_1]) M = p34_0 call meth x0_1 M := by kernel_rfl
theorem ok34 : okFn Try.prog 34 F34 = true := by kernel_rfl
/-! (*sallyport/packet.Packet).Data -/
def C36_1 : AC := .ret
def C36_2 : AC := .seq (.drw (.op (some 5) (.mov (.t 0)) (.op (some 6) (.nilCk (.t 5)) (.op (some 7) (.fldA 1 (.t 6)) (.op (some 8) (.load1 .sl (.t 7)) (.op (some 9) (.mov (.t 0)) (.op (some 10) (.nilCk (.t 9)) (.op (some 11) (.fldA 2 (.t 10)) (.op (some 12) (.load1 (.int .i64) (.t 11)) (.op (some 13) (.mov (.t 0)) (.op (some 14) (.nilCk (.t 13)) (.op (some 15) (.fldA 3 (.t 14)) (.op (some 16) (.load1 (.int .i64) (.t 15)) (.op (some 17) (.mov (.t 0)) (.op (some 18) (.nilCk (.t 17)) (.op (some 19) (.fldA 3 (.t 18)) (.op (some 20) (.load1 (.int .i64) (.t 19)) (.op (some 21) (.slc 1 (.t 8) (some (.t 12)) (some (.t 16)) (some (.t 20))) (.op (some 2) (.mov (.t 21)) .nil)))))))))))))))))) [] []) C36_1
def C36_3 : AC := .ret
def C36_4 : AC := .cond (.t 4) (.seq (.reg (.op (some 2) (.mov (.c (.sl none 0 (.known 0)))) .nil) []) C36_3) .skip
def C36_5 : AC := .seq (.seq (.reg (.op (some 3) (.mov (.t 0)) (.op (some 4) (.call 51 [(.t 3)] (.r (.one .bool))) .nil)) []) C36_4) C36_2
def C36_6 : AC := .seq (.reg (.op (some 2) (.mov (.c (.sl none 0 (.known 0)))) .nil) []) C36_5
def F36 : AFunc := { ntmps := 22, results := [.tmp 2], body := C36_6 }
noncomputable def p36_0 (call : CallF) (meth : MethF) (x0_1 : Option (Nat × Nat)) (M : Mem) : Option (AVal × Mem) := run false call meth F36.results [.code C36_6] [some (.ptr x0_1), none, none, none, none, none, none, none, none, none, none, none, none, none, none, none, none, none, none, none, none, none] M
theorem p36_0_eq (call : CallF) (meth : MethF) (x0_1 : Option (Nat × Nat)) (M : Mem) : p36_0 call meth x0_1 M = (Option.bind (call 51 [.ptr x0_1] M) fun r101 => (Option.bind (r101.1.bool?) fun x102 => (cond x102 (some (.sl none 0 (.known 0), r101.2)) (Option.bind x0_1 fun p103 => (Option.bind (r101.2.ldL p103.1 (p103.2 + 1)) fun x104 => (Option.bind x0_1 fun p105 => (Option.bind (r101.2.ldI .i64 p105.1 (p105.2 + 2)) fun x106 => (Option.bind x0_1 fun p107 => (Option.bind (r101.2.ldI .i64 p107.1 (p107.2 + 3)) fun x108 => (Option.bind x0_1 fun p109 => (Option.bind (r101.2.ldI .i64 p109.1 (p109.2 + 3)) fun x110 => (slcK false 1 x104.1 x104.2.1 x104.2.2 r101.2 (some (.int .i64 x106)) (some (.int .i64 x108)) (some (.int .i64 x110)) fun s111a s111l s111c => (some (.sl s111a s111l s111c, r101.2)))))))))))))) :=
  (seg_run false call meth F36.results 100000 [.code C36_6] _ M).symm.trans (by kernel_rfl)
theorem run36 (call : CallF) (meth : MethF) (x0_1 : Option (Nat × Nat)) (M : Mem) : run false call meth F36.results [.code F36.body] (frame0 F36 [.ptr x0_1]) M = p36_0 call meth x0_1 M := by kernel_rfl
theorem ok36 : okFn Try.prog 36 F36 = true := by kernel_rfl
/-! (*sallyport/share.Share).there -/
def C37_1 : AC := .ret
def C37_2 : AC := .seq (.reg (.op (some 2) (.mov (.c (.int .i64 0))) .nil) []) C37_1
def C37_3 : AC := .ret
def C37_4 : AC := .ret
def C37_5 : AC := .cond (.t 13) (.seq (.reg (.op (some 2) (.mov (.c (.int .i64 40))) .nil) []) C37_4) .skip
def C37_6 : AC := .cond (.t 3) (.seq (.reg (.op (some 2) (.mov (.c (.int .i64 1))) .nil) []) C37_3) (.seq (.reg (.op (some 14) (.mov (.t 0)) (.op (some 15) (.nilCk (.t 14)) (.op (some 16) (.fldA 1 (.t 15)) (.op (some 17) (.load1 .ptr (.t 16)) (.op (some 18) (.eq false .ptr (.t 17) (.c (.ptr none))) (.op (some 13) (.mov (.t 18)) .nil)))))) []) C37_5)
def C37_7 : AC := .seq (.block 0 (.seq (.reg (.op (some 4) (.mov (.t 0)) (.op (some 5) (.eq false .ptr (.t 4) (.c (.ptr none))) (.op (some 6) (.mov (.t 5)) (.grp 6 false (.op (some 7) (.mov (.t 0)) (.op (some 8) (.nilCk (.t 7)) (.op (some 9) (.fldA 0 (.t 8)) (.op (some 10) (.load1 .bool (.t 9)) (.op (some 11) (.not (.t 10)) .nil))))) (.op (some 12) (.pick (.t 6) (.c (.bool true)) (.t 11)) (.op (some 3) (.mov (.t 12)) .nil)))))) []) C37_6)) C37_2
def C37_8 : AC := .seq (.reg (.op (some 2) (.mov (.c (.int .i64 0))) .nil) []) C37_7
def F37 : AFunc := { ntmps := 19, results := [.tmp 2], body := C37_8 }
noncomputable def p37_0 (call : CallF) (meth : MethF) (x0_1 : Option (Nat × Nat)) (M : Mem) : Option (AVal × Mem) := run false call meth F37.results [.code C37_8] [some (.ptr x0_1), none, none, none, none, none, none, none, none, none, none, none, none, none, none, none, none, none, none] M
theorem p37_0_eq (call : CallF) (meth : MethF) (x0_1 : Option (Nat × Nat)) (M : Mem) : p37_0 call meth x0_1 M = (cond x0_1.isNone (some (.int .i64 1, M)) (Option.bind x0_1 fun p101 => (Option.bind (M.ldB p101.1 (p101.2 + 0)) fun x102 => (cond (!x102) (some (.int .i64 1, M)) (Option.bind x0_1 fun p103 => (Option.bind (M.ldP p103.1 (p103.2 + 1)) fun x104 => (cond x104.isNone (some (.int .i64 40, M)) (some (.int .i64 0, M))))))))) :=
  (seg_run false call meth F37.results 100000 [.code C37_8] _ M).symm.trans (by kernel_rfl)
theorem run37 (call : CallF) (meth : MethF) (x0_1 : Option (Nat × Nat)) (M : Mem) : run false call meth F37.results [.code F37.body] (frame0 F37 [.ptr x0_1]) M = p37_0 call meth x0_1 M := by kernel_rfl
theorem ok37 : okFn Try.prog 37 F37 = true := by kernel_rfl
/-! (*sallyport/packet.Packet).Bytes -/
def C38_1 : AC := .ret
def C38_2 : AC := .seq (.reg (.op (some 3) (.mov (.t 0)) (.op (some 4) (.call 36 [(.t 3)] (.r (.one .sl))) (.op (some 5) (.call 40 [(.t 4)] (.r (.one .sl))) (.op (some 2) (.mov (.t 5)) .nil)))) []) C38_1
def C38_3 : AC := .seq (.reg (.op (some 2) (.mov (.c (.sl none 0 (.known 0)))) .nil) []) C38_2
def F38 : AFunc := { ntmps := 6, results := [.tmp 2], body := C38_3 }
noncomputable def p38_0 (call : CallF) (meth : MethF) (x0_1 : Option (Nat × Nat)) (M : Mem) : Option (AVal × Mem) := run false call meth F38.results [.code C38_3] [some (.ptr x0_1), none, none, none, none, none] M
theorem p38_0_eq (call : CallF) (meth : MethF) (x0_1 : Option (Nat × Nat)) (M : Mem) : p38_0 call meth x0_1 M = (Option.bind (call 36 [.ptr x0_1] M) fun r101 => (Option.bind (r101.1.sl?) fun x102 => (Option.bind (call 40 [.sl x102.1 x102.2.1 x102.2.2] r101.2) fun r103 => (Option.bind (r103.1.sl?) fun x104 => (some (.sl x104.1 x104.2.1 x104.2.2, r103.2)))))) :=
  (seg_run false call meth F38.results 100000 [.code C38_3] _ M).symm.trans (by kernel_rfl)
theorem run38 (call : CallF) (meth : MethF) (x0_1 : Option (Nat × Nat)) (M : Mem) : run false call meth F38.results [.code F38.body] (frame0 F38 [.ptr x0_1]) M = p38_0 call meth x0_1 M := by kernel_rfl
theorem ok38 : okFn Try.prog 38 F38 = true := by kernel_rfl
/-! slices.Clip[[]byte,byte] -/
def C39_1 : AC := .ret
def C39_2 : AC := .seq (.reg (.op (some 3) (.mov (.t 0)) (.op (some 4) (.mov (.t 0)) (.op (some 5) (.len (.t 4)) (.op (some 6) (.mov (.t 0)) (.op (some 7) (.len (.t 6)) (.op (some 8) (.slc 1 (.t 3) none (some (.t 5)) (some (.t 7))) (.op (some 2) (.mov (.t 8)) .nil))))))) []) C39_1
def C39_3 : AC := .seq (.reg (.op (some 2) (.mov (.c (.sl none 0 (.known 0)))) .nil) []) C39_2
def F39 : AFunc := { ntmps := 9, results := [.tmp 2], body := C39_3 }
noncomputable def p39_0 (call : CallF) (meth : MethF) (x0_1a : Option (Nat × Nat)) (x0_1l : Nat) (x0_1c : Cap) (M : Mem) : Option (AVal × Mem) := run false call meth F39.results [.code C39_3] [some (.sl x0_1a x0_1l x0_1c), none, none, none, none, none, none, none, none] M
theorem p39_0_eq (call : CallF) (meth : MethF) (x0_1a : Option (Nat × Nat)) (x0_1l : Nat) (x0_1c : Cap) (M : Mem) : p39_0 call meth x0_1a x0_1l x0_1c M = (slcK false 1 x0_1a x0_1l x0_1c M none (some (.int .i64 ((x0_1l : Nat) : Int))) (some (.int .i64 ((x0_1l : Nat) : Int))) fun s101a s101l s101c => (some (.sl s101a s101l s101c, M))) :=
  (seg_run false call meth F39.results 100000 [.code C39_3] _ M).symm.trans (by kernel_rfl)
theorem run39 (call : CallF) (meth : MethF) (x0_1a : Option (Nat × Nat)) (x0_1l : Nat) (x0_1c : Cap) (M : Mem) : run false call meth F39.results [.code F39.body] (frame0 F39 [.sl x0_1a x0_1l x0_1c]) M = p39_0 call meth x0_1a x0_1l x0_1c M := by kernel_rfl
theorem ok39 : okFn Try.prog 39 F39 = true := by kernel_rfl
/-! slices.Clone[[]byte,byte] -/
def C40_1 : AC := .ret
def C40_2 : AC := .seq (.reg (.op (some 5) (.bslice [] [] 0) (.op (some 6) (.mov (.t 0)) (.op (some 7) (.app 1 1 (.t 5) (.t 6)) (.op (some 2) (.mov (.t 7)) .nil)))) []) C40_1
def C40_3 : AC := .ret
def C40_4 : AC := .cond (.t 4) (.seq (.reg (.op (some 2) (.mov (.c (.sl none 0 (.known 0)))) .nil) []) C40_3) .skip
def C40_5 : AC := .seq (.seq (.reg (.op (some 3) (.mov (.t 0)) (.op (some 4) (.eq false .sl (.t 3) (.c (.sl none 0 (.known 0)))) .nil)) []) C40_4) C40_2
def C40_6 : AC := .seq (.reg (.op (some 2) (.mov (.c (.sl none 0 (.known 0)))) .nil) []) C40_5
def F40 : AFunc := { ntmps := 8, results := [.tmp 2], body := C40_6 }
noncomputable def p40_0 (call : CallF) (meth : MethF) (x0_1a : Option (Nat × Nat)) (x0_1l : Nat) (x0_1c : Cap) (M : Mem) : Option (AVal × Mem) := run false call meth F40.results [.code C40_6] [some (.sl x0_1a x0_1l x0_1c), none, none, none, none, none, none, none] M
theorem p40_0_eq (call : CallF) (meth : MethF) (x0_1a : Option (Nat × Nat)) (x0_1l : Nat) (x0_1c : Cap) (M : Mem) : p40_0 call meth x0_1a x0_1l x0_1c M = (cond x0_1a.isNone (some (.sl none 0 (.known 0), M)) (let M101 := M.alloc ⟨[], .fixed⟩; (appK false 1 1 M101 (some (M.n, 0)) 0 (.known 0) (.sl x0_1a x0_1l x0_1c) fun s102a s102l s102c M103 => (some (.sl s102a s102l s102c, M103))))) :=
  (seg_run false call meth F40.results 100000 [.code C40_6] _ M).symm.trans (by kernel_rfl)
theorem run40 (call : CallF) (meth : MethF) (x0_1a : Option (Nat × Nat)) (x0_1l : Nat) (x0_1c : Cap) (M : Mem) : run false call meth F40.results [.code F40.body] (frame0 F40 [.sl x0_1a x0_1l x0_1c]) M = p40_0 call meth x0_1a x0_1l x0_1c M := by kernel_rfl
theorem ok40 : okFn Try.prog 40 F40 = true := by kernel_rfl
/-! sallyport/sallyportref03.New -/
def C43_1 : AC := .ret
def C43_2 : AC := .seq (.reg (.op (some 25) (.mov (.t 0)) (.op (some 26) (.call 16 [(.t 25)] (.r (.one .sl))) (.op (some 27) (.mov (.t 1)) (.op (some 28) (.mov (.t 2)) (.op (some 29) (.build [.sl none 0 (.known 0), .int .i64 0, .int .i64 0, .int .i64 0] [(0, 1, (.t 26)), (1, 1, (.t 27)), (2, 1, (.t 28))]) (.op (some 30) (.box (.t 29)) (.op (some 6) (.mov (.t 30)) (.op (some 7) (.mov (.c (.int .i64 0))) .nil)))))))) []) C43_1
def C43_3 : AC := .kil [3, 4, 5, 6, 7, 8, 9, 10, 11, 12, 13, 14, 15, 16, 17, 18, 19, 20, 21, 22, 23, 24, 25, 26, 27, 28, 29, 30] (.pt C43_2)
def C43_4 : AC := .ret
def C43_5 : AC := .cond (.t 24) (.seq (.reg (.op (some 6) (.mov (.c (.ptr none))) (.op (some 7) (.mov (.c (.int .i64 2))) .nil)) []) C43_4) .skip
def C43_6 : AC := .seq (.seq (.reg (.op (some 11) (.mov (.t 1)) (.op (some 12) (.bin .lss (.t 11) (.c (.int .i64 0))) (.op (some 13) (.mov (.t 12)) (.grp 13 false (.op (some 14) (.mov (.t 1)) (.op (some 15) (.bin .gtr (.t 14) (.c (.int .i64 256))) .nil)) (.op (some 16) (.pick (.t 13) (.c (.bool true)) (.t 15)) (.op (some 17) (.mov (.t 16)) (.grp 17 false (.op (some 18) (.mov (.t 2)) (.op (some 19) (.bin .lss (.t 18) (.c (.int .i64 0))) .nil)) (.op (some 20) (.pick (.t 17) (.c (.bool true)) (.t 19)) (.op (some 21) (.mov (.t 20)) (.grp 21 false (.op (some 22) (.mov (.t 2)) (.op (some 23) (.bin .gtr (.t 22) (.c (.int .i64 256))) .nil)) (.op (some 24) (.pick (.t 21) (.c (.bool true)) (.t 23)) .nil))))))))))) []) C43_5) C43_3
def C43_7 : AC := .ret
def C43_8 : AC := .cond (.t 10) (.seq (.reg (.op (some 6) (.mov (.c (.ptr none))) (.op (some 7) (.mov (.c (.int .i64 5))) .nil)) []) C43_7) .skip
def C43_9 : AC := .seq (.seq (.reg (.op (some 8) (.mov (.t 0)) (.op (some 9) (.len (.t 8)) (.op (some 10) (.bin .gtr (.t 9) (.c (.int .i64 2048))) .nil))) []) C43_8) C43_6
def C43_10 : AC := .seq (.reg (.op (some 6) (.mov (.c (.ptr none))) (.op (some 7) (.mov (.c (.int .i64 0))) .nil)) []) C43_9
def F43 : AFunc := { ntmps := 31, results := [.tmp 6, .tmp 7], body := C43_10 }
noncomputable def p43_0 (call : CallF) (meth : MethF) (x0_1a : Option (Nat × Nat)) (x0_1l : Nat) (x0_1c : Cap) (x1_2 : Int) (x2_3 : Int) (M : Mem) : Option (AVal × Mem) := run false call meth F43.results [.code C43_10] [some (.sl x0_1a x0_1l x0_1c), some (.int .i64 x1_2), some (.int .i64 x2_3), none, none, none, none, none, none, none, none, none, none, none, none, none, none, none, none, none, none, none, none, none, none, none, none, none, none, none, none] M
noncomputable def p43_1 (call : CallF) (meth : MethF) (x0_101a : Option (Nat × Nat)) (x0_101l : Nat) (x0_101c : Cap) (x1_102 : Int) (x2_103 : Int) (M : Mem) : Option (AVal × Mem) := run false call meth F43.results [.code C43_2] [some (.sl x0_101a x0_101l x0_101c), some (.int .i64 x1_102), some (.int .i64 x2_103), none, none, none, none, none, none, none, none, none, none, none, none, none, none, none, none, none, none, none, none, none, none, none, none, none, none, none, none] M
theorem p43_0_eq (call : CallF) (meth : MethF) (x0_1a : Option (Nat × Nat)) (x0_1l : Nat) (x0_1c : Cap) (x1_2 : Int) (x2_3 : Int) (M : Mem) : p43_0 call meth x0_1a x0_1l x0_1c x1_2 x2_3 M = (cond (decide (((x0_1l : Nat) : Int) > 2048)) (some (.tup [.ptr none, .int .i64 5], M)) (cond (decide (x1_2 < 0)) (some (.tup [.ptr none, .int .i64 2], M)) (cond (decide (x1_2 > 256)) (some (.tup [.ptr none, .int .i64 2], M)) (cond (decide (x2_3 < 0)) (some (.tup [.ptr none, .int .i64 2], M)) (cond (decide (x2_3 > 256)) (some (.tup [.ptr none, .int .i64 2], M)) (p43_1 call meth x0_1a x0_1l x0_1c x1_2 x2_3 M)))))) :=
  (seg_run false call meth F43.results 100000 [.code C43_10] _ M).symm.trans (by kernel_rfl)
theorem p43_1_eq (call : CallF) (meth : MethF) (x0_101a : Option (Nat × Nat)) (x0_101l : Nat) (x0_101c : Cap) (x1_102 : Int) (x2_103 : Int) (M : Mem) : p43_1 call meth x0_101a x0_101l x0_101c x1_102 x2_103 M = (Option.bind (call 16 [.sl x0_101a x0_101l x0_101c] M) fun r201 => (Option.bind (r201.1.sl?) fun x202 => (let M203 := r201.2.alloc ⟨[.sl x202.1 x202.2.1 x202.2.2, .int .i64 x1_102, .int .i64 x2_103, .int .i64 0], .fixed⟩; (some (.tup [.ptr (some (r201.2.n, 0)), .int .i64 0], M203))))) :=
  (seg_run false call meth F43.results 100000 [.code C43_2] _ M).symm.trans (by kernel_rfl)
theorem run43 (call : CallF) (meth : MethF) (x0_1a : Option (Nat × Nat)) (x0_1l : Nat) (x0_1c : Cap) (x1_2 : Int) (x2_3 : Int) (M : Mem) : run false call meth F43.results [.code F43.body] (frame0 F43 [.sl x0_1a x0_1l x0_1c, .int .i64 x1_2, .int .i64 x2_3]) M = p43_0 call meth x0_1a x0_1l x0_1c x1_2 x2_3 M := by kernel_rfl
theorem ok43 : okFn Try.prog 43 F43 = true := by kernel_rfl
/-! (*sallyport/sallyportref04.Share).Len -/
def C44_1 : AC := .ret
def C44_2 : AC := .seq (.reg (.op (some 7) (.mov (.t 0)) (.op (some 8) (.nilCk (.t 7)) (.op (some 9) (.fldA 0 (.t 8)) (.op (some 10) (.load1 .ptr (.t 9)) (.op (some 11) (.nilCk (.t 10)) (.op (some 12) (.fldA 0 (.t 11)) (.op (some 13) (.load1 .ptr (.t 12)) (.op (some 14) (.call 53 [(.t 13)] (.r (.one (.int .i64)))) (.op (some 2) (.mov (.t 14)) .nil))))))))) []) C44_1
def C44_3 : AC := .ret
def C44_4 : AC := .cond (.t 6) (.seq (.reg (.op (some 2) (.mov (.c (.int .i64 0))) .nil) []) C44_3) .skip
def C44_5 : AC := .seq (.seq (.reg (.op (some 3) (.mov (.t 0)) (.op (some 4) (.nilCk (.t 3)) (.op (some 5) (.fldA 1 (.t 4)) (.op (some 6) (.load1 .bool (.t 5)) .nil)))) []) C44_4) C44_2
def C44_6 : AC := .seq (.reg (.op (some 2) (.mov (.c (.int .i64 0))) .nil) []) C44_5
def F44 : AFunc := { ntmps := 15, results := [.tmp 2], body := C44_6 }
noncomputable def p44_0 (call : CallF) (meth : MethF) (x0_1 : Option (Nat × Nat)) (M : Mem) : Option (AVal × Mem) := run false call meth F44.results [.code C44_6] [some (.ptr x0_1), none, none, none, none, none, none, none, none, none, none, none, none, none, none] M
theorem p44_0_eq (call : CallF) (meth : MethF) (x0_1 : Option (Nat × Nat)) (M : Mem) : p44_0 call meth x0_1 M = (Option.bind x0_1 fun p101 => (Option.bind (M.ldB p101.1 (p101.2 + 1)) fun x102 => (cond x102 (some (.int .i64 0, M)) (Option.bind x0_1 fun p103 => (Option.bind (M.ldP p103.1 (p103.2 + 0)) fun x104 => (Option.bind x104 fun p105 => (Option.bind (M.ldP p105.1 (p105.2 + 0)) fun x106 => (Option.bind (call 53 [.ptr x106] M) fun r107 => (Option.bind (r107.1.int? .i64) fun x108 => (some (.int .i64 x108, r107.2))))))))))) :=
  (seg_run false call meth F44.results 100000 [.code C44_6] _ M).symm.trans (by kernel_rfl)
theorem run44 (call : CallF) (meth : MethF) (x0_1 : Option (Nat × Nat)) (M : Mem) : run false call meth F44.results [.code F44.body] (frame0 F44 [.ptr x0_1]) M = p44_0 call meth x0_1 M := by kernel_rfl
theorem ok44 : okFn Try.prog 44 F44 = true := by kernel_rfl
/-! (*sallyport/sallyportref04.Share).Own -/
def C45_1 : AC := .ret
def C45_2 : AC := .seq (.reg (.op (some 10) (.mov (.t 0)) (.op (some 11) (.nilCk (.t 10)) (.op (some 12) (.fldA 0 (.t 11)) (.op (some 13) (.load1 .ptr (.t 12)) (.op (some 14) (.nilCk (.t 13)) (.op (some 15) (.fldA 0 (.t 14)) (.op (some 16) (.load1 .ptr (.t 15)) (.op (some 2) (.mov (.t 16)) (.op (some 3) (.mov (.c (.int .i64 0))) .nil))))))))) []) C45_1
def C45_3 : AC := .seq (.reg (.op (some 8) (.mov (.t 0)) (.op (some 9) (.call 54 [(.t 8)] (.tup [])) .nil)) []) C45_2
def C45_4 : AC := .ret
def C45_5 : AC := .cond (.t 7) (.seq (.reg (.op (some 2) (.mov (.c (.ptr none))) (.op (some 3) (.mov (.c (.int .i64 40))) .nil)) []) C45_4) .skip
def C45_6 : AC := .seq (.seq (.reg (.op (some 4) (.mov (.t 0)) (.op (some 5) (.nilCk (.t 4)) (.op (some 6) (.fldA 1 (.t 5)) (.op (some 7) (.load1 .bool (.t 6)) .nil)))) []) C45_5) C45_3
def C45_7 : AC := .seq (.reg (.op (some 2) (.mov (.c (.ptr none))) (.op (some 3) (.mov (.c (.int .i64 0))) .nil)) []) C45_6
def F45 : AFunc := { ntmps := 17, results := [.tmp 2, .tmp 3], body := C45_7 }
noncomputable def p45_0 (call : CallF) (meth : MethF) (x0_1 : Option (Nat × Nat)) (M : Mem) : Option (AVal × Mem) := run false call meth F45.results [.code C45_7] [some (.ptr x0_1), none, none, none, none, none, none, none, none, none, none, none, none, none, none, none, none] M
theorem p45_0_eq (call : CallF) (meth : MethF) (x0_1 : Option (Nat × Nat)) (M : Mem) : p45_0 call meth x0_1 M = (Option.bind x0_1 fun p101 => (Option.bind (M.ldB p101.1 (p101.2 + 1)) fun x102 => (cond x102 (some (.tup [.ptr none, .int .i64 40], M)) (Option.bind (call 54 [.ptr x0_1] M) fun r103 => (Option.bind r103.1.tup? fun l104 => (cond l104.isEmpty (Option.bind x0_1 fun p105 => (Option.bind (r103.2.ldP p105.1 (p105.2 + 0)) fun x106 => (Option.bind x106 fun p107 => (Option.bind (r103.2.ldP p107.1 (p107.2 + 0)) fun x108 => (some (.tup [.ptr x108, .int .i64 0], r103.2)))))) none)))))) :=
  (seg_run false call meth F45.results 100000 [.code C45_7] _ M).symm.trans (by kernel_rfl)
theorem run45 (call : CallF) (meth : MethF) (x0_1 : Option (Nat × Nat)) (M : Mem) : run false call meth F45.results [.code F45.body] (frame0 F45 [.ptr x0_1]) M = p45_0 call meth x0_1 M := by kernel_rfl
theorem ok45 : okFn Try.prog 45 F45 = true := by kernel_rfl
/-! (*sallyport/sallyportref03.Packet).Bytes -/
def C46_1 : AC := .ret
def C46_2 : AC := .seq (.reg (.op (some 3) (.mov (.t 0)) (.op (some 4) (.nilCk (.t 3)) (.op (some 5) (.fldA 0 (.t 4)) (.op (some 6) (.load1 .sl (.t 5)) (.op (some 7) (.call 16 [(.t 6)] (.r (.one .sl))) (.op (some 2) (.mov (.t 7)) .nil)))))) []) C46_1
def C46_3 : AC := .seq (.reg (.op (some 2) (.mov (.c (.sl none 0 (.known 0)))) .nil) []) C46_2
def F46 : AFunc := { ntmps := 8, results := [.tmp 2], body := C46_3 }
noncomputable def p46_0 (call : CallF) (meth : MethF) (x0_1 : Option (Nat × Nat)) (M : Mem) : Option (AVal × Mem) := run false call meth F46.results [.code C46_3] [some (.ptr x0_1), none, none, none, none, none, none, none] M
theorem p46_0_eq (call : CallF) (meth : MethF) (x0_1 : Option (Nat × Nat)) (M : Mem) : p46_0 call meth x0_1 M = (Option.bind x0_1 fun p101 => (Option.bind (M.ldL p101.1 (p101.2 + 0)) fun x102 => (Option.bind (call 16 [.sl x102.1 x102.2.1 x102.2.2] M) fun r103 => (Option.bind (r103.1.sl?) fun x104 => (some (.sl x104.1 x104.2.1 x104.2.2, r103.2)))))) :=
  (seg_run false call meth F46.results 100000 [.code C46_3] _ M).symm.trans (by kernel_rfl)
theorem run46 (call : CallF) (meth : MethF) (x0_1 : Option (Nat × Nat)) (M : Mem) : run false call meth F46.results [.code F46.body] (frame0 F46 [.ptr x0_1]) M = p46_0 call meth x0_1 M := by kernel_rfl
theorem ok46 : okFn Try.prog 46 F46 = true := by kernel_rfl
/-! (*sallyport/packet.Packet).Store -/
def C47_1 : AC := .ret
def C47_2 : AC := .seq (.reg (.op (some 8) (.mov (.c (.int .i64 0))) .nil) []) C47_1
def C47_3 : AC := .reg (.op (some 42) (.bin .add (.t 28) (.c (.int .i64 1))) (.op (some 28) (.mov (.t 42)) .nil)) []
def C47_4 : AC := .reg (.op (some 31) (.mov (.t 10)) (.op (some 32) (.mov (.t 11)) (.op (some 33) (.mov (.t 3)) (.op (some 34) (.mov (.t 2)) (.op (some 35) (.bin .sub (.t 34) (.c (.int .i64 1))) (.op (some 36) (.mov (.t 11)) (.op (some 37) (.bin .sub (.t 35) (.t 36)) (.op (some 38) (.bin .mul (.c (.int .i64 8)) (.t 37)) (.op (some 39) (.shift .shr (.t 33) (.t 38)) (.op (some 40) (.convI .u8 (.t 39)) (.op (some 41) (.ixS 1 (.t 31) (.t 32)) (.op none (.store 1 (.t 41) (.t 40)) .nil)))))))))))) []
def C47_5 : AC := .seq (.block 1 (.seq (.reg (.op (some 30) (.mov (.t 28)) (.op (some 11) (.mov (.t 30)) .nil)) []) C47_4)) C47_3
def C47_6 : AC := .seq (.cond (.t 29) .skip (.exit 0)) C47_5
def C47_7 : AC := .seq (.reg (.op (some 29) (.bin .lss (.t 28) (.t 27)) .nil) []) C47_6
def C47_8 : AC := .kil [0, 1, 4, 5, 6, 7, 8, 9, 11, 12, 13, 14, 15, 16, 17, 18, 19, 20, 21, 22, 23, 24, 25, 26, 29, 30, 31, 32, 33, 34, 35, 36, 37, 38, 39, 40, 41, 42] (.pt C47_7)
def C47_9 : AC := .block 0 (.loop C47_8)
def C47_10 : AC := .seq (.seq (.reg (.op (some 26) (.mov (.t 10)) (.op (some 27) (.len (.t 26)) (.op (some 28) (.mov (.c (.int .i64 0))) .nil))) []) C47_9) C47_2
def C47_11 : AC := .seq (.reg (.op (some 19) (.mov (.t 0)) (.op (some 20) (.call 36 [(.t 19)] (.r (.one .sl))) (.op (some 21) (.mov (.t 1)) (.op (some 22) (.mov (.t 1)) (.op (some 23) (.mov (.t 2)) (.op (some 24) (.bin .add (.t 22) (.t 23)) (.op (some 25) (.slc 1 (.t 20) (some (.t 21)) (some (.t 24)) none) (.op (some 10) (.mov (.t 25)) .nil)))))))) []) C47_10
def C47_12 : AC := .ret
def C47_13 : AC := .cond (.t 17) (.seq (.reg (.op (some 18) (.mov (.t 9)) (.op (some 8) (.mov (.t 18)) .nil)) []) C47_12) .skip
def C47_14 : AC := .seq (.reg (.op (some 16) (.mov (.t 9)) (.op (some 17) (.bin .neq (.t 16) (.c (.int .i64 0))) .nil)) []) C47_13
def C47_15 : AC := .seq (.seq (.reg (.op (some 12) (.mov (.t 0)) (.op (some 13) (.mov (.t 1)) (.op (some 14) (.mov (.t 2)) (.op (some 15) (.call 55 [(.t 12), (.t 13), (.t 14)] (.r (.one (.int .i64)))) (.op (some 9) (.mov (.t 15)) .nil))))) []) C47_14) C47_11
def C47_16 : AC := .seq (.reg (.op (some 8) (.mov (.c (.int .i64 0))) .nil) []) C47_15
def F47 : AFunc := { ntmps := 43, results := [.tmp 8], body := C47_16 }
noncomputable def p47_0 (call : CallF) (meth : MethF) (x0_1 : Option (Nat × Nat)) (x1_2 : Int) (x2_3 : Int) (x3_4 : Int) (M : Mem) : Option (AVal × Mem) := run false call meth F47.results [.code C47_16] [some (.ptr x0_1), some (.int .i64 x1_2), some (.int .i64 x2_3), some (.int .u64 x3_4), none, none, none, none, none, none, none, none, none, none, none, none, none, none, none, none, none, none, none, none, none, none, none, none, none, none, none, none, none, none, none, none, none, none, none, none, none, none, none] M
noncomputable def p47_1 (call : CallF) (meth : MethF) (x2_106 : Int) (x3_107 : Int) (x10_108a : Option (Nat × Nat)) (x10_108l : Nat) (x10_108c : Cap) (x27_109 : Int) (x28_110 : Int) (M : Mem) : Option (AVal × Mem) := run false call meth F47.results [.code C47_7, .inLoop C47_8, .inBlock 0, .code C47_2] [none, none, some (.int .i64 x2_106), some (.int .u64 x3_107), none, none, none, none, none, none, some (.sl x10_108a x10_108l x10_108c), none, none, none, none, none, none, none, none, none, none, none, none, none, none, none, none, some (.int .i64 x27_109), some (.int .i64 x28_110), none, none, none, none, none, none, none, none, none, none, none, none, none, none] M
theorem p47_0_eq (call : CallF) (meth : MethF) (x0_1 : Option (Nat × Nat)) (x1_2 : Int) (x2_3 : Int) (x3_4 : Int) (M : Mem) : p47_0 call meth x0_1 x1_2 x2_3 x3_4 M = (Option.bind (call 55 [.ptr x0_1, .int .i64 x1_2, .int .i64 x2_3] M) fun r101 => (Option.bind (r101.1.int? .i64) fun x102 => (cond (x102 != 0) (some (.int .i64 x102, r101.2)) (Option.bind (call 36 [.ptr x0_1] r101.2) fun r103 => (Option.bind (r103.1.sl?) fun x104 => (slcK false 1 x104.1 x104.2.1 x104.2.2 r103.2 (some (.int .i64 x1_2)) (some (.int .i64 (IntKind.wrap .i64 (x1_2 + x2_3)))) none fun s105a s105l s105c => (p47_1 call meth x2_3 x3_4 s105a s105l s105c ((s105l : Nat) : Int) 0 r103.2))))))) :=
  (seg_run false call meth F47.results 100000 [.code C47_16] _ M).symm.trans (by kernel_rfl)
theorem p47_1_eq (call : CallF) (meth : MethF) (x2_106 : Int) (x3_107 : Int) (x10_108a : Option (Nat × Nat)) (x10_108l : Nat) (x10_108c : Cap) (x27_109 : Int) (x28_110 : Int) (M : Mem) : p47_1 call meth x2_106 x3_107 x10_108a x10_108l x10_108c x27_109 x28_110 M = (cond (decide (x28_110 < x27_109)) (cond (decide ((IntKind.wrap .i64 (8 * (IntKind.wrap .i64 ((IntKind.wrap .i64 (x2_106 - 1)) - x28_110)))) < 0)) none (cond (decide (0 ≤ x28_110)) (cond (Nat.blt x28_110.toNat x10_108l) (Option.bind (slPtr x10_108a x10_108c) fun p201 => (Option.bind (M.st p201.1 (p201.2 + x28_110.toNat * 1) [.int .u8 (IntKind.wrap .u8 (Int.fdiv x3_107 (2 ^ Nat.min (IntKind.wrap .i64 (8 * (IntKind.wrap .i64 ((IntKind.wrap .i64 (x2_106 - 1)) - x28_110)))).toNat (IntKind.bits .u64))))]) fun M202 => (p47_1 call meth x2_106 x3_107 x10_108a x10_108l x10_108c x27_109 (IntKind.wrap .i64 (x28_110 + 1)) M202))) none) none)) (some (.int .i64 0, M))) :=
  (seg_run false call meth F47.results 100000 [.code C47_7, .inLoop C47_8, .inBlock 0, .code C47_2] _ M).symm.trans (by kernel_rfl)
theorem run47 (call : CallF) (meth : MethF) (x0_1 : Option (Nat × Nat)) (x1_2 : Int) (x2_3 : Int) (x3_4 : Int) (M : Mem) : run false call meth F47.results [.code F47.body] (frame0 F47 [.ptr x0_1, .int .i64 x1_2, .int .i64 x2_3, .int .u64 x3_4]) M = p47_0 call meth x0_1 x1_2 x2_3 x3_4 M := by kernel_rfl
theorem ok47 : okFn Try.prog 47 F47 = true := by kernel_rfl
/-! sallyport/packet.New -/
def C48_1 : AC := .ret
def C48_2 : AC := .seq (.reg (.op (some 35) (.mov (.t 8)) (.op (some 6) (.mov (.t 35)) (.op (some 7) (.mov (.c (.int .i64 0))) .nil))) []) C48_1
def C48_3 : AC := .seq (.reg (.op (some 30) (.mov (.t 8)) (.op (some 31) (.mov (.t 0)) (.op (some 32) (.mov (.t 1)) (.op (some 33) (.mov (.t 2)) (.op (some 34) (.call 56 [(.t 30), (.t 31), (.t 32), (.c (.int .i64 0)), (.c (.int .i64 0)), (.t 33)] (.tup [])) .nil))))) []) C48_2
def C48_4 : AC := .seq (.reg (.op (some 28) (.build [.bool false, .sl none 0 (.known 0), .int .i64 0, .int .i64 0, .int .i64 0] [(0, 1, (.c (.bool true)))]) (.op (some 29) (.box (.t 28)) (.op (some 8) (.mov (.t 29)) .nil))) []) C48_3
def C48_5 : AC := .kil [3, 4, 5, 6, 7, 8, 9, 10, 11, 12, 13, 14, 15, 16, 17, 18, 19, 20, 21, 22, 23, 24, 25, 26, 27, 28, 29, 30, 31, 32, 33, 34, 35] (.pt C48_4)
def C48_6 : AC := .ret
def C48_7 : AC := .ret
def C48_8 : AC := .cond (.t 13) (.seq (.reg (.op (some 6) (.mov (.c (.ptr none))) (.op (some 7) (.mov (.c (.int .i64 2))) .nil)) []) C48_7) .skip
def C48_9 : AC := .cond (.t 9) (.seq (.reg (.op (some 6) (.mov (.c (.ptr none))) (.op (some 7) (.mov (.c (.int .i64 5))) .nil)) []) C48_6) (.seq (.reg (.op (some 14) (.mov (.t 1)) (.op (some 15) (.bin .lss (.t 14) (.c (.int .i64 0))) (.op (some 16) (.mov (.t 15)) (.grp 16 false (.op (some 17) (.mov (.t 1)) (.op (some 18) (.bin .gtr (.t 17) (.c (.int .i64 256))) .nil)) (.op (some 19) (.pick (.t 16) (.c (.bool true)) (.t 18)) (.op (some 20) (.mov (.t 19)) (.grp 20 false (.op (some 21) (.mov (.t 2)) (.op (some 22) (.bin .lss (.t 21) (.c (.int .i64 0))) .nil)) (.op (some 23) (.pick (.t 20) (.c (.bool true)) (.t 22)) (.op (some 24) (.mov (.t 23)) (.grp 24 false (.op (some 25) (.mov (.t 2)) (.op (some 26) (.bin .gtr (.t 25) (.c (.int .i64 256))) .nil)) (.op (some 27) (.pick (.t 24) (.c (.bool true)) (.t 26)) (.op (some 13) (.mov (.t 27)) .nil)))))))))))) []) C48_8)
def C48_10 : AC := .seq (.block 0 (.seq (.reg (.op (some 10) (.mov (.t 0)) (.op (some 11) (.len (.t 10)) (.op (some 12) (.bin .gtr (.t 11) (.c (.int .i64 2048))) (.op (some 9) (.mov (.t 12)) .nil)))) []) C48_9)) C48_5
def C48_11 : AC := .seq (.reg (.op (some 6) (.mov (.c (.ptr none))) (.op (some 7) (.mov (.c (.int .i64 0))) .nil)) []) C48_10
def F48 : AFunc := { ntmps := 36, results := [.tmp 6, .tmp 7], body := C48_11 }
noncomputable def p48_0 (call : CallF) (meth : MethF) (x0_1a : Option (Nat × Nat)) (x0_1l : Nat) (x0_1c : Cap) (x1_2 : Int) (x2_3 : Int) (M : Mem) : Option (AVal × Mem) := run false call meth F48.results [.code C48_11] [some (.sl x0_1a x0_1l x0_1c), some (.int .i64 x1_2), some (.int .i64 x2_3), none, none, none, none, none, none, none, none, none, none, none, none, none, none, none, none, none, none, none, none, none, none, none, none, none, none, none, none, none, none, none, none, none] M
noncomputable def p48_1 (call : CallF) (meth : MethF) (x0_101a : Option (Nat × Nat)) (x0_101l : Nat) (x0_101c : Cap) (x1_102 : Int) (x2_103 : Int) (M : Mem) : Option (AVal × Mem) := run false call meth F48.results [.code C48_4] [some (.sl x0_101a x0_101l x0_101c), some (.int .i64 x1_102), some (.int .i64 x2_103), none, none, none, none, none, none, none, none, none, none, none, none, none, none, none, none, none, none, none, none, none, none, none, none, none, none, none, none, none, none, none, none, none] M
theorem p48_0_eq (call : CallF) (meth : MethF) (x0_1a : Option (Nat × Nat)) (x0_1l : Nat) (x0_1c : Cap) (x1_2 : Int) (x2_3 : Int) (M : Mem) : p48_0 call meth x0_1a x0_1l x0_1c x1_2 x2_3 M = (cond (decide (((x0_1l : Nat) : Int) > 2048)) (some (.tup [.ptr none, .int .i64 5], M)) (cond (decide (x1_2 < 0)) (some (.tup [.ptr none, .int .i64 2], M)) (cond (decide (x1_2 > 256)) (some (.tup [.ptr none, .int .i64 2], M)) (cond (decide (x2_3 < 0)) (some (.tup [.ptr none, .int .i64 2], M)) (cond (decide (x2_3 > 256)) (some (.tup [.ptr none, .int .i64 2], M)) (p48_1 call meth x0_1a x0_1l x0_1c x1_2 x2_3 M)))))) :=
  (seg_run false call meth F48.results 100000 [.code C48_11] _ M).symm.trans (by kernel_rfl)
theorem p48_1_eq (call : CallF) (meth : MethF) (x0_101a : Option (Nat × Nat)) (x0_101l : Nat) (x0_101c : Cap) (x1_102 : Int) (x2_103 : Int) (M : Mem) : p48_1 call meth x0_101a x0_101l x0_101c x1_102 x2_103 M = (let M201 := M.alloc ⟨[.bool true, .sl none 0 (.known 0), .int .i64 0, .int .i64 0, .int .i64 0], .fixed⟩; (Option.bind (call 56 [.ptr (some (M.n, 0)), .sl x0_101a x0_101l x0_101c, .int .i64 x1_102, .int .i64 0, .int .i64 0, .int .i64 x2_103] M201) fun r202 => (Option.bind r202.1.tup? fun l203 => (cond l203.isEmpty (some (.tup [.ptr (some (M.n, 0)), .int .i64 0], r202.2)) none)))) :=
  (seg_run false call meth F48.results 100000 [.code C48_4] _ M).symm.trans (by kernel_rfl)
theorem run48 (call : CallF) (meth : MethF) (x0_1a : Option (Nat × Nat)) (x0_1l : Nat) (x0_1c : Cap) (x1_2 : Int) (x2_3 : Int) (M : Mem) : run false call meth F48.results [.code F48.body] (frame0 F48 [.sl x0_1a x0_1l x0_1c, .int .i64 x1_2, .int .i64 x2_3]) M = p48_0 call meth x0_1a x0_1l x0_1c x1_2 x2_3 M := by kernel_rfl
theorem ok48 : okFn Try.prog 48 F48 = true := by kernel_rfl
/-! (*sallyport/packet.Packet).Load -/
def C49_1 : AC := .ret
def C49_2 : AC := .seq (.reg (.op (some 37) (.mov (.t 9)) (.op (some 6) (.mov (.t 37)) (.op (some 7) (.mov (.c (.int .i64 0))) .nil))) []) C49_1
def C49_3 : AC := .reg (.op (some 36) (.bin .add (.t 27) (.c (.int .i64 1))) (.op (some 27) (.mov (.t 36)) .nil)) []
def C49_4 : AC := .reg (.op (some 31) (.mov (.t 9)) (.op (some 32) (.shift .shl (.t 31) (.c (.int .u64 8))) (.op (some 33) (.mov (.t 11)) (.op (some 34) (.convI .u64 (.t 33)) (.op (some 35) (.bin .or (.t 32) (.t 34)) (.op (some 9) (.mov (.t 35)) .nil)))))) []
def C49_5 : AC := .seq (.block 1 (.seq (.reg (.op (some 29) (.ixS 1 (.t 25) (.t 27)) (.op (some 30) (.load1 (.int .u8) (.t 29)) (.op (some 11) (.mov (.t 30)) .nil))) []) C49_4)) C49_3
def C49_6 : AC := .seq (.cond (.t 28) .skip (.exit 0)) C49_5
def C49_7 : AC := .seq (.reg (.op (some 28) (.bin .lss (.t 27) (.t 26)) .nil) []) C49_6
def C49_8 : AC := .kil [0, 1, 2, 3, 4, 5, 6, 7, 8, 10, 11, 12, 13, 14, 15, 16, 17, 18, 19, 20, 21, 22, 23, 24, 28, 29, 30, 31, 32, 33, 34, 35, 36, 37] (.pt C49_7)
def C49_9 : AC := .block 0 (.loop C49_8)
def C49_10 : AC := .seq (.seq (.reg (.op (some 19) (.mov (.t 0)) (.op (some 20) (.call 36 [(.t 19)] (.r (.one .sl))) (.op (some 21) (.mov (.t 1)) (.op (some 22) (.mov (.t 1)) (.op (some 23) (.mov (.t 2)) (.op (some 24) (.bin .add (.t 22) (.t 23)) (.op (some 25) (.slc 1 (.t 20) (some (.t 21)) (some (.t 24)) none) (.op (some 26) (.len (.t 25)) (.op (some 27) (.mov (.c (.int .i64 0))) .nil))))))))) []) C49_9) C49_2
def C49_11 : AC := .seq (.reg (.op (some 9) (.mov (.c (.int .u64 0))) .nil) []) C49_10
def C49_12 : AC := .ret
def C49_13 : AC := .cond (.t 17) (.seq (.reg (.op (some 18) (.mov (.t 8)) (.op (some 6) (.mov (.c (.int .u64 0))) (.op (some 7) (.mov (.t 18)) .nil))) []) C49_12) .skip
def C49_14 : AC := .seq (.reg (.op (some 16) (.mov (.t 8)) (.op (some 17) (.bin .neq (.t 16) (.c (.int .i64 0))) .nil)) []) C49_13
def C49_15 : AC := .seq (.seq (.reg (.op (some 12) (.mov (.t 0)) (.op (some 13) (.mov (.t 1)) (.op (some 14) (.mov (.t 2)) (.op (some 15) (.call 55 [(.t 12), (.t 13), (.t 14)] (.r (.one (.int .i64)))) (.op (some 8) (.mov (.t 15)) .nil))))) []) C49_14) C49_11
def C49_16 : AC := .seq (.reg (.op (some 6) (.mov (.c (.int .u64 0))) (.op (some 7) (.mov (.c (.int .i64 0))) .nil)) []) C49_15
def F49 : AFunc := { ntmps := 38, results := [.tmp 6, .tmp 7], body := C49_16 }
noncomputable def p49_0 (call : CallF) (meth : MethF) (x0_1 : Option (Nat × Nat)) (x1_2 : Int) (x2_3 : Int) (M : Mem) : Option (AVal × Mem) := run false call meth F49.results [.code C49_16] [some (.ptr x0_1), some (.int .i64 x1_2), some (.int .i64 x2_3), none, none, none, none, none, none, none, none, none, none, none, none, none, none, none, none, none, none, none, none, none, none, none, none, none, none, none, none, none, none, none, none, none, none, none] M
noncomputable def p49_1 (call : CallF) (meth : MethF) (x9_106 : Int) (x25_107a : Option (Nat × Nat)) (x25_107l : Nat) (x25_107c : Cap) (x26_108 : Int) (x27_109 : Int) (M : Mem) : Option (AVal × Mem) := run false call meth F49.results [.code C49_7, .inLoop C49_8, .inBlock 0, .code C49_2] [none, none, none, none, none, none, none, none, none, some (.int .u64 x9_106), none, none, none, none, none, none, none, none, none, none, none, none, none, none, none, some (.sl x25_107a x25_107l x25_107c), some (.int .i64 x26_108), some (.int .i64 x27_109), none, none, none, none, none, none, none, none, none, none] M
theorem p49_0_eq (call : CallF) (meth : MethF) (x0_1 : Option (Nat × Nat)) (x1_2 : Int) (x2_3 : Int) (M : Mem) : p49_0 call meth x0_1 x1_2 x2_3 M = (Option.bind (call 55 [.ptr x0_1, .int .i64 x1_2, .int .i64 x2_3] M) fun r101 => (Option.bind (r101.1.int? .i64) fun x102 => (cond (x102 != 0) (some (.tup [.int .u64 0, .int .i64 x102], r101.2)) (Option.bind (call 36 [.ptr x0_1] r101.2) fun r103 => (Option.bind (r103.1.sl?) fun x104 => (slcK false 1 x104.1 x104.2.1 x104.2.2 r103.2 (some (.int .i64 x1_2)) (some (.int .i64 (IntKind.wrap .i64 (x1_2 + x2_3)))) none fun s105a s105l s105c => (p49_1 call meth 0 s105a s105l s105c ((s105l : Nat) : Int) 0 r103.2))))))) :=
  (seg_run false call meth F49.results 100000 [.code C49_16] _ M).symm.trans (by kernel_rfl)
theorem p49_1_eq (call : CallF) (meth : MethF) (x9_106 : Int) (x25_107a : Option (Nat × Nat)) (x25_107l : Nat) (x25_107c : Cap) (x26_108 : Int) (x27_109 : Int) (M : Mem) : p49_1 call meth x9_106 x25_107a x25_107l x25_107c x26_108 x27_109 M = (cond (decide (x27_109 < x26_108)) (cond (decide (0 ≤ x27_109)) (cond (Nat.blt x27_109.toNat x25_107l) (Option.bind (slPtr x25_107a x25_107c) fun p201 => (Option.bind (M.ldI .u8 p201.1 (p201.2 + x27_109.toNat * 1)) fun x202 => (p49_1 call meth (IntKind.wrap .u64 ((BitVec.ofInt (IntKind.bits .u64) (IntKind.wrap .u64 (x9_106 * 2 ^ Nat.min 8 (IntKind.bits .u64))) ||| BitVec.ofInt (IntKind.bits .u64) (IntKind.wrap .u64 x202)).toNat)) x25_107a x25_107l x25_107c x26_108 (IntKind.wrap .i64 (x27_109 + 1)) M))) none) none) (some (.tup [.int .u64 x9_106, .int .i64 0], M))) :=
  (seg_run false call meth F49.results 100000 [.code C49_7, .inLoop C49_8, .inBlock 0, .code C49_2] _ M).symm.trans (by kernel_rfl)
theorem run49 (call : CallF) (meth : MethF) (x0_1 : Option (Nat × Nat)) (x1_2 : Int) (x2_3 : Int) (M : Mem) : run false call meth F49.results [.code F49.body] (frame0 F49 [.ptr x0_1, .int .i64 x1_2, .int .i64 x2_3]) M = p49_0 call meth x0_1 x1_2 x2_3 M := by kernel_rfl
theorem ok49 : okFn Try.prog 49 F49 = true := by kernel_rfl
/-! (*sallyport/packet.Packet).Len -/
def C50_1 : AC := .ret
def C50_2 : AC := .seq (.drw (.op (some 5) (.mov (.t 0)) (.op (some 6) (.nilCk (.t 5)) (.op (some 7) (.fldA 3 (.t 6)) (.op (some 8) (.load1 (.int .i64) (.t 7)) (.op (some 9) (.mov (.t 0)) (.op (some 10) (.nilCk (.t 9)) (.op (some 11) (.fldA 2 (.t 10)) (.op (some 12) (.load1 (.int .i64) (.t 11)) (.op (some 13) (.bin .sub (.t 8) (.t 12)) (.op (some 2) (.mov (.t 13)) .nil)))))))))) [] []) C50_1
def C50_3 : AC := .ret
def C50_4 : AC := .cond (.t 4) (.seq (.reg (.op (some 2) (.mov (.c (.int .i64 0))) .nil) []) C50_3) .skip
def C50_5 : AC := .seq (.seq (.reg (.op (some 3) (.mov (.t 0)) (.op (some 4) (.call 51 [(.t 3)] (.r (.one .bool))) .nil)) []) C50_4) C50_2
def C50_6 : AC := .seq (.reg (.op (some 2) (.mov (.c (.int .i64 0))) .nil) []) C50_5
def F50 : AFunc := { ntmps := 14, results := [.tmp 2], body := C50_6 }
noncomputable def p50_0 (call : CallF) (meth : MethF) (x0_1 : Option (Nat × Nat)) (M : Mem) : Option (AVal × Mem) := run false call meth F50.results [.code C50_6] [some (.ptr x0_1), none, none, none, none, none, none, none, none, none, none, none, none, none] M
theorem p50_0_eq (call : CallF) (meth : MethF) (x0_1 : Option (Nat × Nat)) (M : Mem) : p50_0 call meth x0_1 M = (Option.bind (call 51 [.ptr x0_1] M) fun r101 => (Option.bind (r101.1.bool?) fun x102 => (cond x102 (some (.int .i64 0, r101.2)) (Option.bind x0_1 fun p103 => (Option.bind (r101.2.ldI .i64 p103.1 (p103.2 + 3)) fun x104 => (Option.bind x0_1 fun p105 => (Option.bind (r101.2.ldI .i64 p105.1 (p105.2 + 2)) fun x106 => (some (.int .i64 (IntKind.wrap .i64 (x104 - x106)), r101.2))))))))) :=
  (seg_run false call meth F50.results 100000 [.code C50_6] _ M).symm.trans (by kernel_rfl)
theorem run50 (call : CallF) (meth : MethF) (x0_1 : Option (Nat × Nat)) (M : Mem) : run false call meth F50.results [.code F50.body] (frame0 F50 [.ptr x0_1]) M = p50_0 call meth x0_1 M := by kernel_rfl
theorem ok50 : okFn Try.prog 50 F50 = true := by kernel_rfl
/-! (*sallyport/packet.Packet).none -/
def C51_1 : AC := .ret
def C51_2 : AC := .seq (.reg (.op (some 3) (.mov (.t 0)) (.op (some 4) (.eq false .ptr (.t 3) (.c (.ptr none))) (.op (some 5) (.mov (.t 4)) (.grp 5 false (.op (some 6) (.mov (.t 0)) (.op (some 7) (.nilCk (.t 6)) (.op (some 8) (.fldA 0 (.t 7)) (.op (some 9) (.load1 .bool (.t 8)) (.op (some 10) (.not (.t 9)) .nil))))) (.op (some 11) (.pick (.t 5) (.c (.bool true)) (.t 10)) (.op (some 2) (.mov (.t 11)) .nil)))))) []) C51_1
def C51_3 : AC := .seq (.reg (.op (some 2) (.mov (.c (.bool false))) .nil) []) C51_2
def F51 : AFunc := { ntmps := 12, results := [.tmp 2], body := C51_3 }
noncomputable def p51_0 (call : CallF) (meth : MethF) (x0_1 : Option (Nat × Nat)) (M : Mem) : Option (AVal × Mem) := run false call meth F51.results [.code C51_3] [some (.ptr x0_1), none, none, none, none, none, none, none, none, none, none, none] M
theorem p51_0_eq (call : CallF) (meth : MethF) (x0_1 : Option (Nat × Nat)) (M : Mem) : p51_0 call meth x0_1 M = (cond x0_1.isNone (some (.bool true, M)) (Option.bind x0_1 fun p101 => (Option.bind (M.ldB p101.1 (p101.2 + 0)) fun x102 => (some (.bool (!x102), M))))) :=
  (seg_run false call meth F51.results 100000 [.code C51_3] _ M).symm.trans (by kernel_rfl)
theorem run51 (call : CallF) (meth : MethF) (x0_1 : Option (Nat × Nat)) (M : Mem) : run false call meth F51.results [.code F51.body] (frame0 F51 [.ptr x0_1]) M = p51_0 call meth x0_1 M := by kernel_rfl
theorem ok51 : okFn Try.prog 51 F51 = true := by kernel_rfl
/-! (*sallyport/sallyportref03.Packet).Len -/
def C53_1 : AC := .ret
def C53_2 : AC := .seq (.reg (.op (some 3) (.mov (.t 0)) (.op (some 4) (.nilCk (.t 3)) (.op (some 5) (.fldA 0 (.t 4)) (.op (some 6) (.load1 .sl (.t 5)) (.op (some 7) (.len (.t 6)) (.op (some 2) (.mov (.t 7)) .nil)))))) []) C53_1
def C53_3 : AC := .seq (.reg (.op (some 2) (.mov (.c (.int .i64 0))) .nil) []) C53_2
def F53 : AFunc := { ntmps := 8, results := [.tmp 2], body := C53_3 }
noncomputable def p53_0 (call : CallF) (meth : MethF) (x0_1 : Option (Nat × Nat)) (M : Mem) : Option (AVal × Mem) := run false call meth F53.results [.code C53_3] [some (.ptr x0_1), none, none, none, none, none, none, none] M
theorem p53_0_eq (call : CallF) (meth : MethF) (x0_1 : Option (Nat × Nat)) (M : Mem) : p53_0 call meth x0_1 M = (Option.bind x0_1 fun p101 => (Option.bind (M.ldL p101.1 (p101.2 + 0)) fun x102 => (some (.int .i64 ((x102.2.1 : Nat) : Int), M)))) :=
  (seg_run false call meth F53.results 100000 [.code C53_3] _ M).symm.trans (by kernel_rfl)
theorem run53 (call : CallF) (meth : MethF) (x0_1 : Option (Nat × Nat)) (M : Mem) : run false call meth F53.results [.code F53.body] (frame0 F53 [.ptr x0_1]) M = p53_0 call meth x0_1 M := by kernel_rfl
theorem ok53 : okFn Try.prog 53 F53 = true := by kernel_rfl
/-! (*sallyport/sallyportref04.Share).part -/
def C54_1 : AC := .reg (.op (some 40) (.mov (.t 0)) (.op (some 41) (.mov (.t 2)) (.op (some 42) (.build [.ptr none, .int .i64 0] [(0, 1, (.t 41)), (1, 1, (.c (.int .i64 1)))]) (.op (some 43) (.box (.t 42)) (.op (some 44) (.nilCk (.t 40)) (.op (some 45) (.fldA 0 (.t 44)) (.op none (.store 1 (.t 45) (.t 43)) .nil))))))) []
def C54_2 : AC := .seq (.reg (.op (some 27) (.mov (.t 0)) (.op (some 28) (.nilCk (.t 27)) (.op (some 29) (.fldA 0 (.t 28)) (.op (some 30) (.load1 .ptr (.t 29)) (.op (some 31) (.nilCk (.t 30)) (.op (some 32) (.fldA 0 (.t 31)) (.op (some 33) (.load1 .ptr (.t 32)) (.op (some 34) (.nilCk (.t 33)) (.op (some 35) (.fldA 0 (.t 34)) (.op (some 36) (.load1 .sl (.t 35)) (.op (some 37) (.call 43 [(.t 36), (.c (.int .i64 64)), (.c (.int .i64 64))] (.tup [.one .ptr, .one (.int .i64)])) (.op (some 26) (.mov (.t 37)) (.op (some 38) (.ext (.t 26) 0) (.op (some 39) (.ext (.t 26) 1) (.op (some 2) (.mov (.t 38)) (.op (some 3) (.mov (.t 39)) .nil)))))))))))))))) []) C54_1
def C54_3 : AC := .seq (.drw (.op (some 12) (.mov (.t 0)) (.op (some 13) (.nilCk (.t 12)) (.op (some 14) (.fldA 0 (.t 13)) (.op (some 15) (.load1 .ptr (.t 14)) (.op (some 16) (.mov (.t 0)) (.op (some 17) (.nilCk (.t 16)) (.op (some 18) (.fldA 0 (.t 17)) (.op (some 19) (.load1 .ptr (.t 18)) (.op (some 20) (.nilCk (.t 19)) (.op (some 21) (.fldA 1 (.t 20)) (.op (some 22) (.load1 (.int .i64) (.t 21)) (.op (some 23) (.bin .sub (.t 22) (.c (.int .i64 1))) (.op (some 24) (.nilCk (.t 15)) (.op (some 25) (.fldA 1 (.t 24)) (.op none (.store 1 (.t 25) (.t 23)) .nil))))))))))))))) [] []) C54_2
def C54_4 : AC := .cond (.t 11) .ret .skip
def C54_5 : AC := .seq (.seq (.reg (.op (some 4) (.mov (.t 0)) (.op (some 5) (.nilCk (.t 4)) (.op (some 6) (.fldA 0 (.t 5)) (.op (some 7) (.load1 .ptr (.t 6)) (.op (some 8) (.nilCk (.t 7)) (.op (some 9) (.fldA 1 (.t 8)) (.op (some 10) (.load1 (.int .i64) (.t 9)) (.op (some 11) (.bin .eql (.t 10) (.c (.int .i64 1))) .nil)))))))) []) C54_4) C54_3
def F54 : AFunc := { ntmps := 46, results := [], body := C54_5 }
noncomputable def p54_0 (call : CallF) (meth : MethF) (x0_1 : Option (Nat × Nat)) (M : Mem) : Option (AVal × Mem) := run false call meth F54.results [.code C54_5] [some (.ptr x0_1), none, none, none, none, none, none, none, none, none, none, none, none, none, none, none, none, none, none, none, none, none, none, none, none, none, none, none, none, none, none, none, none, none, none, none, none, none, none, none, none, none, none, none, none, none] M
theorem p54_0_eq (call : CallF) (meth : MethF) (x0_1 : Option (Nat × Nat)) (M : Mem) : p54_0 call meth x0_1 M = (Option.bind x0_1 fun p101 => (Option.bind (M.ldP p101.1 (p101.2 + 0)) fun x102 => (Option.bind x102 fun p103 => (Option.bind (M.ldI .i64 p103.1 (p103.2 + 1)) fun x104 => (cond (x104 == 1) (some (.tup [], M)) (Option.bind x0_1 fun p105 => (Option.bind (M.ldP p105.1 (p105.2 + 0)) fun x106 => (Option.bind x0_1 fun p107 => (Option.bind (M.ldP p107.1 (p107.2 + 0)) fun x108 => (Option.bind x108 fun p109 => (Option.bind (M.ldI .i64 p109.1 (p109.2 + 1)) fun x110 => (Option.bind x106 fun p111 => (Option.bind (M.st p111.1 (p111.2 + 1) [.int .i64 (IntKind.wrap .i64 (x110 - 1))]) fun M112 => (Option.bind x0_1 fun p113 => (Option.bind (M112.ldP p113.1 (p113.2 + 0)) fun x114 => (Option.bind x114 fun p115 => (Option.bind (M112.ldP p115.1 (p115.2 + 0)) fun x116 => (Option.bind x116 fun p117 => (Option.bind (M112.ldL p117.1 (p117.2 + 0)) fun x118 => (Option.bind (call 43 [.sl x118.1 x118.2.1 x118.2.2, .int .i64 64, .int .i64 64] M112) fun r119 => (Option.bind r119.1.tup? fun l120 => (Option.bind l120.head? fun v121 => (Option.bind (v121.ptr?) fun x122 => (Option.bind l120.tail.head? fun v123 => (Option.bind (v123.int? .i64) fun x124 => (cond l120.tail.tail.isEmpty (let M125 := r119.2.alloc ⟨[.ptr x122, .int .i64 1], .fixed⟩; (Option.bind x0_1 fun p126 => (Option.bind (M125.st p126.1 (p126.2 + 0) [.ptr (some (r119.2.n, 0))]) fun M127 => (some (.tup [], M127))))) none)))))))))))))))))))))))))) :=
  (seg_run false call meth F54.results 100000 [.code C54_5] _ M).symm.trans (by kernel_rfl)
theorem run54 (call : CallF) (meth : MethF) (x0_1 : Option (Nat × Nat)) (M : Mem) : run false call meth F54.results [.code F54.body] (frame0 F54 [.ptr x0_1]) M = p54_0 call meth x0_1 M := by kernel_rfl
theorem ok54 : okFn Try.prog 54 F54 = true := by kernel_rfl
/-! (*sallyport/packet.Packet).asked -/
def C55_1 : AC := .ret
def C55_2 : AC := .seq (.reg (.op (some 6) (.mov (.c (.int .i64 0))) .nil) []) C55_1
def C55_3 : AC := .ret
def C55_4 : AC := .ret
def C55_5 : AC := .ret
def C55_6 : AC := .cond (.t 17) (.seq (.reg (.op (some 6) (.mov (.c (.int .i64 20))) .nil) []) C55_5) .skip
def C55_7 : AC := .cond (.t 10) (.seq (.reg (.op (some 6) (.mov (.c (.int .i64 2))) .nil) []) C55_4) (.seq (.reg (.op (some 18) (.mov (.t 1)) (.op (some 19) (.bin .lss (.t 18) (.c (.int .i64 0))) (.op (some 20) (.mov (.t 19)) (.grp 20 false (.op (some 21) (.mov (.t 1)) (.op (some 22) (.mov (.t 0)) (.op (some 23) (.call 50 [(.t 22)] (.r (.one (.int .i64)))) (.op (some 24) (.mov (.t 2)) (.op (some 25) (.bin .sub (.t 23) (.t 24)) (.op (some 26) (.bin .gtr (.t 21) (.t 25)) .nil)))))) (.op (some 27) (.pick (.t 20) (.c (.bool true)) (.t 26)) (.op (some 17) (.mov (.t 27)) .nil)))))) []) C55_6)
def C55_8 : AC := .seq (.reg (.op (some 11) (.mov (.t 2)) (.op (some 12) (.bin .lss (.t 11) (.c (.int .i64 1))) (.op (some 13) (.mov (.t 12)) (.grp 13 false (.op (some 14) (.mov (.t 2)) (.op (some 15) (.bin .gtr (.t 14) (.c (.int .i64 8))) .nil)) (.op (some 16) (.pick (.t 13) (.c (.bool true)) (.t 15)) (.op (some 10) (.mov (.t 16)) .nil)))))) []) C55_7
def C55_9 : AC := .cond (.t 7) (.seq (.reg (.op (some 6) (.mov (.c (.int .i64 1))) .nil) []) C55_3) (.kil [3, 4, 5, 6, 7, 8, 9, 10, 11, 12, 13, 14, 15, 16, 17, 18, 19, 20, 21, 22, 23, 24, 25, 26, 27] (.pt C55_8))
def C55_10 : AC := .seq (.block 0 (.seq (.reg (.op (some 8) (.mov (.t 0)) (.op (some 9) (.call 51 [(.t 8)] (.r (.one .bool))) (.op (some 7) (.mov (.t 9)) .nil))) []) C55_9)) C55_2
def C55_11 : AC := .seq (.reg (.op (some 6) (.mov (.c (.int .i64 0))) .nil) []) C55_10
def F55 : AFunc := { ntmps := 28, results := [.tmp 6], body := C55_11 }
noncomputable def p55_0 (call : CallF) (meth : MethF) (x0_1 : Option (Nat × Nat)) (x1_2 : Int) (x2_3 : Int) (M : Mem) : Option (AVal × Mem) := run false call meth F55.results [.code C55_11] [some (.ptr x0_1), some (.int .i64 x1_2), some (.int .i64 x2_3), none, none, none, none, none, none, none, none, none, none, none, none, none, none, none, none, none, none, none, none, none, none, none, none, none] M
noncomputable def p55_1 (call : CallF) (meth : MethF) (x0_103 : Option (Nat × Nat)) (x1_104 : Int) (x2_105 : Int) (M : Mem) : Option (AVal × Mem) := run false call meth F55.results [.code C55_8, .inBlock 0, .code C55_2] [some (.ptr x0_103), some (.int .i64 x1_104), some (.int .i64 x2_105), none, none, none, none, none, none, none, none, none, none, none, none, none, none, none, none, none, none, none, none, none, none, none, none, none] M
theorem p55_0_eq (call : CallF) (meth : MethF) (x0_1 : Option (Nat × Nat)) (x1_2 : Int) (x2_3 : Int) (M : Mem) : p55_0 call meth x0_1 x1_2 x2_3 M = (Option.bind (call 51 [.ptr x0_1] M) fun r101 => (Option.bind (r101.1.bool?) fun x102 => (cond x102 (some (.int .i64 1, r101.2)) (p55_1 call meth x0_1 x1_2 x2_3 r101.2)))) :=
  (seg_run false call meth F55.results 100000 [.code C55_11] _ M).symm.trans (by kernel_rfl)
theorem p55_1_eq (call : CallF) (meth : MethF) (x0_103 : Option (Nat × Nat)) (x1_104 : Int) (x2_105 : Int) (M : Mem) : p55_1 call meth x0_103 x1_104 x2_105 M = (cond (decide (x2_105 < 1)) (some (.int .i64 2, M)) (cond (decide (x2_105 > 8)) (some (.int .i64 2, M)) (cond (decide (x1_104 < 0)) (some (.int .i64 20, M)) (Option.bind (call 50 [.ptr x0_103] M) fun r201 => (Option.bind (r201.1.int? .i64) fun x202 => (cond (decide (x1_104 > (IntKind.wrap .i64 (x202 - x2_105)))) (some (.int .i64 20, r201.2)) (some (.int .i64 0, r201.2)))))))) :=
  (seg_run false call meth F55.results 100000 [.code C55_8, .inBlock 0, .code C55_2] _ M).symm.trans (by kernel_rfl)
theorem run55 (call : CallF) (meth : MethF) (x0_1 : Option (Nat × Nat)) (x1_2 : Int) (x2_3 : Int) (M : Mem) : run false call meth F55.results [.code F55.body] (frame0 F55 [.ptr x0_1, .int .i64 x1_2, .int .i64 x2_3]) M = p55_0 call meth x0_1 x1_2 x2_3 M := by kernel_rfl
theorem ok55 : okFn Try.prog 55 F55 = true := by kernel_rfl
/-! (*sallyport/packet.Packet).lay -/
def C56_1 : AC := .reg (.op (some 31) (.mov (.t 0)) (.op (some 32) (.mov (.t 0)) (.op (some 33) (.mov (.t 0)) (.op (some 34) (.mov (.t 12)) (.op (some 35) (.mov (.t 2)) (.op (some 36) (.mov (.t 12)) (.op (some 37) (.len (.t 36)) (.op (some 38) (.mov (.t 5)) (.op (some 39) (.bin .sub (.t 37) (.t 38)) (.op (some 40) (.nilCk (.t 31)) (.op (some 41) (.fldA 1 (.t 40)) (.op none (.store 1 (.t 41) (.t 34)) (.op (some 42) (.nilCk (.t 32)) (.op (some 43) (.fldA 2 (.t 42)) (.op none (.store 1 (.t 43) (.t 35)) (.op (some 44) (.nilCk (.t 33)) (.op (some 45) (.fldA 3 (.t 44)) (.op none (.store 1 (.t 45) (.t 39)) .nil)))))))))))))))))) []
def C56_2 : AC := .seq (.reg (.op (some 24) (.mov (.t 12)) (.op (some 25) (.mov (.t 2)) (.op (some 26) (.mov (.t 3)) (.op (some 27) (.bin .add (.t 25) (.t 26)) (.op (some 28) (.slc 1 (.t 24) (some (.t 27)) none none) (.op (some 29) (.mov (.t 1)) (.op (some 30) (.copy 1 (.t 28) (.t 29)) .nil))))))) []) C56_1
def C56_3 : AC := .seq (.reg (.op (some 13) (.mov (.t 2)) (.op (some 14) (.mov (.t 3)) (.op (some 15) (.bin .add (.t 13) (.t 14)) (.op (some 16) (.mov (.t 1)) (.op (some 17) (.len (.t 16)) (.op (some 18) (.bin .add (.t 15) (.t 17)) (.op (some 19) (.mov (.t 4)) (.op (some 20) (.bin .add (.t 18) (.t 19)) (.op (some 21) (.mov (.t 5)) (.op (some 22) (.bin .add (.t 20) (.t 21)) (.op (some 23) (.mkSl [.int .u8 0] 1 (.t 22) (.t 22)) (.op (some 12) (.mov (.t 23)) .nil)))))))))))) []) C56_2
def F56 : AFunc := { ntmps := 46, results := [], body := C56_3 }
noncomputable def p56_0 (call : CallF) (meth : MethF) (x0_1 : Option (Nat × Nat)) (x1_2a : Option (Nat × Nat)) (x1_2l : Nat) (x1_2c : Cap) (x2_3 : Int) (x3_4 : Int) (x4_5 : Int) (x5_6 : Int) (M : Mem) : Option (AVal × Mem) := run false call meth F56.results [.code C56_3] [some (.ptr x0_1), some (.sl x1_2a x1_2l x1_2c), some (.int .i64 x2_3), some (.int .i64 x3_4), some (.int .i64 x4_5), some (.int .i64 x5_6), none, none, none, none, none, none, none, none, none, none, none, none, none, none, none, none, none, none, none, none, none, none, none, none, none, none, none, none, none, none, none, none, none, none, none, none, none, none, none, none] M
theorem p56_0_eq (call : CallF) (meth : MethF) (x0_1 : Option (Nat × Nat)) (x1_2a : Option (Nat × Nat)) (x1_2l : Nat) (x1_2c : Cap) (x2_3 : Int) (x3_4 : Int) (x4_5 : Int) (x5_6 : Int) (M : Mem) : p56_0 call meth x0_1 x1_2a x1_2l x1_2c x2_3 x3_4 x4_5 x5_6 M = (cond (decide (0 ≤ (IntKind.wrap .i64 ((IntKind.wrap .i64 ((IntKind.wrap .i64 ((IntKind.wrap .i64 (x2_3 + x3_4)) + ((x1_2l : Nat) : Int))) + x4_5)) + x5_6)))) (cond (decide (0 ≤ (IntKind.wrap .i64 ((IntKind.wrap .i64 ((IntKind.wrap .i64 ((IntKind.wrap .i64 (x2_3 + x3_4)) + ((x1_2l : Nat) : Int))) + x4_5)) + x5_6)))) (cond (Nat.ble ((IntKind.wrap .i64 ((IntKind.wrap .i64 ((IntKind.wrap .i64 ((IntKind.wrap .i64 (x2_3 + x3_4)) + ((x1_2l : Nat) : Int))) + x4_5)) + x5_6)).toNat) ((IntKind.wrap .i64 ((IntKind.wrap .i64 ((IntKind.wrap .i64 ((IntKind.wrap .i64 (x2_3 + x3_4)) + ((x1_2l : Nat) : Int))) + x4_5)) + x5_6)).toNat) && Nat.ble (1 * ((IntKind.wrap .i64 ((IntKind.wrap .i64 ((IntKind.wrap .i64 ((IntKind.wrap .i64 (x2_3 + x3_4)) + ((x1_2l : Nat) : Int))) + x4_5)) + x5_6)).toNat)) (2 ^ 47)) (let M101 := M.alloc ⟨replZ [.int .u8 0] ((IntKind.wrap .i64 ((IntKind.wrap .i64 ((IntKind.wrap .i64 ((IntKind.wrap .i64 (x2_3 + x3_4)) + ((x1_2l : Nat) : Int))) + x4_5)) + x5_6)).toNat), .fixed⟩; (slcK false 1 (some (M.n, 0)) ((IntKind.wrap .i64 ((IntKind.wrap .i64 ((IntKind.wrap .i64 ((IntKind.wrap .i64 (x2_3 + x3_4)) + ((x1_2l : Nat) : Int))) + x4_5)) + x5_6)).toNat) (.known ((IntKind.wrap .i64 ((IntKind.wrap .i64 ((IntKind.wrap .i64 ((IntKind.wrap .i64 (x2_3 + x3_4)) + ((x1_2l : Nat) : Int))) + x4_5)) + x5_6)).toNat)) M101 (some (.int .i64 (IntKind.wrap .i64 (x2_3 + x3_4)))) none none fun s102a s102l s102c => (copyK false 1 M101 s102a s102l s102c (.sl x1_2a x1_2l x1_2c) fun n103 M104 => (Option.bind x0_1 fun p105 => (Option.bind (M104.st p105.1 (p105.2 + 1) [.sl (some (M.n, 0)) ((IntKind.wrap .i64 ((IntKind.wrap .i64 ((IntKind.wrap .i64 ((IntKind.wrap .i64 (x2_3 + x3_4)) + ((x1_2l : Nat) : Int))) + x4_5)) + x5_6)).toNat) (.known ((IntKind.wrap .i64 ((IntKind.wrap .i64 ((IntKind.wrap .i64 ((IntKind.wrap .i64 (x2_3 + x3_4)) + ((x1_2l : Nat) : Int))) + x4_5)) + x5_6)).toNat))]) fun M106 => (Option.bind x0_1 fun p107 => (Option.bind (M106.st p107.1 (p107.2 + 2) [.int .i64 x2_3]) fun M108 => (Option.bind x0_1 fun p109 => (Option.bind (M108.st p109.1 (p109.2 + 3) [.int .i64 (IntKind.wrap .i64 ((((IntKind.wrap .i64 ((IntKind.wrap .i64 ((IntKind.wrap .i64 ((IntKind.wrap .i64 (x2_3 + x3_4)) + ((x1_2l : Nat) : Int))) + x4_5)) + x5_6)).toNat : Nat) : Int) - x5_6))]) fun M110 => (some (.tup [], M110))))))))))) none) none) none) :=
  (seg_run false call meth F56.results 100000 [.code C56_3] _ M).symm.trans (by kernel_rfl)
theorem run56 (call : CallF) (meth : MethF) (x0_1 : Option (Nat × Nat)) (x1_2a : Option (Nat × Nat)) (x1_2l : Nat) (x1_2c : Cap) (x2_3 : Int) (x3_4 : Int) (x4_5 : Int) (x5_6 : Int) (M : Mem) : run false call meth F56.results [.code F56.body] (frame0 F56 [.ptr x0_1, .sl x1_2a x1_2l x1_2c, .int .i64 x2_3, .int .i64 x3_4, .int .i64 x4_5, .int .i64 x5_6]) M = p56_0 call meth x0_1 x1_2a x1_2l x1_2c x2_3 x3_4 x4_5 x5_6 M := by kernel_rfl
theorem ok56 : okFn Try.prog 56 F56 = true := by kernel_rfl
end Go.Proofs.Ytjcakemgghfflaa.M
