import Derived.Test.YtmkncifbammfjaaXRen
import Derived.Test.YtmkncifbammfjaaProg
set_option linter.unusedVariables false
set_option maxRecDepth 100000
namespace Go.Proofs.Ytmkncifbammfjaa.M
open Go.Abs
noncomputable section
variable (call : CallF) (meth : MethF)
def C54_1 : AC := .ret
def C54_2 : AC := .seq (.reg (.o 3 (.mov (.c (.int .i64 0))) .nil) []) C54_1
def C54_3 : AC := .ret
def C54_4 : AC := .cond (.t 17) (.seq (.reg (.o 3 (.mov (.c (.int .i64 110))) .nil) []) C54_3) .skip
def C54_5 : AC := .seq (.seq (.drw (.o 4 (.mov (.t 0)) (.o 5 (.callR 55 (.t 4) (.r (.one (.int .u64)))) (.o 6 (.load1 .ptr (.t 1)) (.o 7 (.nilCk (.t 6)) (.o 8 (.fldA 0 (.t 7)) (.o 9 (.load1 .sl (.t 8)) (.o 10 (.load1 .ptr (.t 1)) (.o 11 (.nilCk (.t 10)) (.o 12 (.fldA 1 (.t 11)) (.o 13 (.load1 (.int .i64) (.t 12)) (.o 14 (.slc 1 (.t 9) none (some (.t 13)) none) (.o 15 (.call 25 [(.t 14)] (.r (.one (.int .u16)))) (.o 16 (.convI .u64 (.t 15)) (.o 17 (.bin .neq (.t 5) (.t 16)) .nil)))))))))))))) [] []) C54_4) C54_2
def C54_6 : AC := .seq (.reg (.o 3 (.mov (.c (.int .i64 0))) .nil) []) C54_5
def F54 : AFunc := { ntmps := 18, results := [.tmp 3], body := C54_6 }
def p54_0 (x0_1a : Ad) (x0_1l : Nat) (x0_1c : Cap) (x1_2 : Ad) (M : Mem) : Rs := run false call meth F54.results [.code C54_6] (some (.sl x0_1a x0_1l x0_1c) :: some (.ptr x1_2) :: nn 16 []) M
theorem p54_0_eq (x0_1a : Ad) (x0_1l : Nat) (x0_1c : Cap) (x1_2 : Ad) (M : Mem) : p54_0 call meth x0_1a x0_1l x0_1c x1_2 M = (readK call 55 M (.sl x0_1a x0_1l x0_1c) fun r101 => (Option.bind (r101.int? .u64) fun x102 => (Option.bind x1_2 fun p103 => (Option.bind (M.ldP p103.1 p103.2) fun x104 => (Option.bind x104 fun p105 => (Option.bind (M.ldL p105.1 (p105.2 + 0)) fun x106 => (Option.bind x1_2 fun p107 => (Option.bind (M.ldP p107.1 p107.2) fun x108 => (Option.bind x108 fun p109 => (Option.bind (M.ldI .i64 p109.1 (p109.2 + 1)) fun x110 => (slcK false 1 x106.1 x106.2.1 x106.2.2 M none (some (.int .i64 x110)) none fun s111a s111l s111c => (Option.bind (call 25 [.sl s111a s111l s111c] M) fun r112 => (Option.bind (r112.1.int? .u16) fun x113 => (cond (x102 != (IntKind.wrap .u64 x113)) (some (.int .i64 110, r112.2)) (some (.int .i64 0, r112.2)))))))))))))))) :=
  (seg_run false call meth F54.results 100000 [.code C54_6] _ M).symm.trans (by kernel_rfl)
theorem run54 (x0_1a : Ad) (x0_1l : Nat) (x0_1c : Cap) (x1_2 : Ad) (M : Mem) : run false call meth F54.results [.code F54.body] (frame0 F54 [.sl x0_1a x0_1l x0_1c, .ptr x1_2]) M = p54_0 call meth x0_1a x0_1l x0_1c x1_2 M := by kernel_rfl
theorem ok54 : okFn Try.prog 54 F54 = true := by kernel_rfl
def C60_1 : AC := .ret
def C60_2 : AC := .seq (.reg (.o 5 (.mov (.c (.int .i64 0))) .nil) []) C60_1
def C60_3 : AC := .ret
def C60_4 : AC := .seq (.reg (.o 5 (.mov (.c (.int .i64 200))) .nil) []) C60_3
def C60_5 : AC := .cond (.t 15) (.seq (.reg (.op none (.store 1 (.t 1) (.c (.int .u64 0))) .nil) []) C60_4) .skip
def C60_6 : AC := .seq (.reg (.o 8 (.load1 (.int .u64) (.t 1)) (.o 9 (.load1 (.int .u64) (.t 2)) (.o 10 (.bin .lss (.t 8) (.t 9)) (.o 11 (.mov (.t 10)) (.grp 11 false (.o 12 (.load1 (.int .u64) (.t 1)) (.o 13 (.load1 (.int .u64) (.t 3)) (.o 14 (.bin .gtr (.t 12) (.t 13)) .nil))) (.o 15 (.pick (.t 11) (.c (.bool true)) (.t 14)) .nil)))))) []) C60_5
def C60_7 : AC := .seq (.seq (.reg (.o 6 (.mov (.t 0)) (.o 7 (.callR 55 (.t 6) (.r (.one (.int .u64)))) (.op none (.store 1 (.t 1) (.t 7)) .nil))) []) C60_6) C60_2
def C60_8 : AC := .seq (.reg (.o 5 (.mov (.c (.int .i64 0))) .nil) []) C60_7
def F60 : AFunc := { ntmps := 16, results := [.tmp 5], body := C60_8 }
def p60_0 (x0_1a : Ad) (x0_1l : Nat) (x0_1c : Cap) (x1_2 : Ad) (x2_3 : Ad) (x3_4 : Ad) (M : Mem) : Rs := run false call meth F60.results [.code C60_8] (some (.sl x0_1a x0_1l x0_1c) :: some (.ptr x1_2) :: some (.ptr x2_3) :: some (.ptr x3_4) :: nn 12 []) M
theorem p60_0_eq (x0_1a : Ad) (x0_1l : Nat) (x0_1c : Cap) (x1_2 : Ad) (x2_3 : Ad) (x3_4 : Ad) (M : Mem) : p60_0 call meth x0_1a x0_1l x0_1c x1_2 x2_3 x3_4 M = (readK call 55 M (.sl x0_1a x0_1l x0_1c) fun r101 => (Option.bind (r101.int? .u64) fun x102 => (Option.bind x1_2 fun p104 => (Option.bind (M.st p104.1 p104.2 [.int .u64 x102]) fun M103 => (Option.bind x1_2 fun p105 => (Option.bind (M103.ldI .u64 p105.1 p105.2) fun x106 => (Option.bind x2_3 fun p107 => (Option.bind (M103.ldI .u64 p107.1 p107.2) fun x108 => (cond (decide (x106 < x108)) (Option.bind x1_2 fun p110 => (Option.bind (M103.st p110.1 p110.2 [.int .u64 0]) fun M109 => (some (.int .i64 200, M109)))) (Option.bind x1_2 fun p111 => (Option.bind (M103.ldI .u64 p111.1 p111.2) fun x112 => (Option.bind x3_4 fun p113 => (Option.bind (M103.ldI .u64 p113.1 p113.2) fun x114 => (cond (decide (x112 > x114)) (Option.bind x1_2 fun p116 => (Option.bind (M103.st p116.1 p116.2 [.int .u64 0]) fun M115 => (some (.int .i64 200, M115)))) (some (.int .i64 0, M103)))))))))))))))) :=
  (seg_run false call meth F60.results 100000 [.code C60_8] _ M).symm.trans (by kernel_rfl)
theorem run60 (x0_1a : Ad) (x0_1l : Nat) (x0_1c : Cap) (x1_2 : Ad) (x2_3 : Ad) (x3_4 : Ad) (M : Mem) : run false call meth F60.results [.code F60.body] (frame0 F60 [.sl x0_1a x0_1l x0_1c, .ptr x1_2, .ptr x2_3, .ptr x3_4]) M = p60_0 call meth x0_1a x0_1l x0_1c x1_2 x2_3 x3_4 M := by kernel_rfl
theorem ok60 : okFn Try.prog 60 F60 = true := by kernel_rfl
def C61_1 : AC := .ret
def C61_2 : AC := .seq (.reg (.o 10 (.mov (.t 3)) (.o 3 (.mov (.t 10)) .nil)) []) C61_1
def C61_3 : AC := .seq (.reg (.o 5 (.mov (.t 0)) (.o 6 (.callR 55 (.t 5) (.r (.one (.int .u64)))) (.o 7 (.callP 62 [(.t 6)] (.tup [.agg [.int .u8, .int .u8, .int .u8, .int .i16, .int .i32], .one (.int .i64)])) (.o 4 (.mov (.t 7)) (.o 8 (.ext (.t 4) 0) (.o 9 (.ext (.t 4) 1) (.op none (.store 5 (.t 1) (.t 8)) (.o 3 (.mov (.t 9)) .nil)))))))) []) C61_2
def C61_4 : AC := .seq (.reg (.o 3 (.mov (.c (.int .i64 0))) .nil) []) C61_3
def F61 : AFunc := { ntmps := 11, results := [.tmp 3], body := C61_4 }
def p61_0 (x0_1a : Ad) (x0_1l : Nat) (x0_1c : Cap) (x1_2 : Ad) (M : Mem) : Rs := run false call meth F61.results [.code C61_4] (some (.sl x0_1a x0_1l x0_1c) :: some (.ptr x1_2) :: nn 9 []) M
theorem p61_0_eq (x0_1a : Ad) (x0_1l : Nat) (x0_1c : Cap) (x1_2 : Ad) (M : Mem) : p61_0 call meth x0_1a x0_1l x0_1c x1_2 M = (readK call 55 M (.sl x0_1a x0_1l x0_1c) fun r101 => (Option.bind (r101.int? .u64) fun x102 => (Option.bind (call 62 [.int .u64 x102] Mem.empty) fun r103 => (Option.bind r103.1.tup? fun l104 => (Option.bind l104.head? fun v105 => (Option.bind v105.agg? fun l106 => (Option.bind l106.head? fun v107 => (Option.bind (v107.int? .u8) fun x108 => (Option.bind l106.tail.head? fun v109 => (Option.bind (v109.int? .u8) fun x110 => (Option.bind l106.tail.tail.head? fun v111 => (Option.bind (v111.int? .u8) fun x112 => (Option.bind l106.tail.tail.tail.head? fun v113 => (Option.bind (v113.int? .i16) fun x114 => (Option.bind l106.tail.tail.tail.tail.head? fun v115 => (Option.bind (v115.int? .i32) fun x116 => (cond l106.tail.tail.tail.tail.tail.isEmpty (Option.bind l104.tail.head? fun v117 => (Option.bind (v117.int? .i64) fun x118 => (cond l104.tail.tail.isEmpty (Option.bind x1_2 fun p120 => (Option.bind (M.st p120.1 p120.2 [.int .u8 x108, .int .u8 x110, .int .u8 x112, .int .i16 x114, .int .i32 x116]) fun M119 => (some (.int .i64 x118, M119)))) none))) none))))))))))))))))) :=
  (seg_run false call meth F61.results 100000 [.code C61_4] _ M).symm.trans (by kernel_rfl)
theorem run61 (x0_1a : Ad) (x0_1l : Nat) (x0_1c : Cap) (x1_2 : Ad) (M : Mem) : run false call meth F61.results [.code F61.body] (frame0 F61 [.sl x0_1a x0_1l x0_1c, .ptr x1_2]) M = p61_0 call meth x0_1a x0_1l x0_1c x1_2 M := by kernel_rfl
theorem ok61 : okFn Try.prog 61 F61 = true := by kernel_rfl
def C63_1 : AC := .ret
def C63_2 : AC := .seq (.reg (.o 3 (.mov (.c (.int .i64 0))) .nil) []) C63_1
def C63_3 : AC := .seq (.reg (.o 28 (.load1 .sl (.t 1)) (.o 29 (.loadA [.int .u64, .int .u64] (.t 4)) (.o 30 (.bslice [.int .u64 0, .int .u64 0] [(0, 2, (.t 29))] 1) (.o 31 (.app 2 16 (.t 28) (.t 30)) (.op none (.store 1 (.t 1) (.t 31)) .nil))))) []) C63_2
def C63_4 : AC := .kil (0 :: 2 :: 3 :: rg 5 27 []) (.pt C63_3)
def C63_5 : AC := .ret
def C63_6 : AC := .cond (.t 27) (.seq (.reg (.o 3 (.mov (.c (.int .i64 190))) .nil) []) C63_5) .skip
def C63_7 : AC := .seq (.drw (.o 15 (.mov (.t 5)) (.o 16 (.bin .gtr (.t 15) (.c (.int .i64 0))) (.o 17 (.mov (.t 16)) (.grp 17 true (.o 18 (.fldA 0 (.t 4)) (.o 19 (.load1 (.int .u64) (.t 18)) (.o 20 (.load1 .sl (.t 1)) (.o 21 (.mov (.t 5)) (.o 22 (.bin .sub (.t 21) (.c (.int .i64 1))) (.o 23 (.ixS 2 (.t 20) (.t 22)) (.o 24 (.fldA 0 (.t 23)) (.o 25 (.load1 (.int .u64) (.t 24)) (.o 26 (.bin .leq (.t 19) (.t 25)) .nil))))))))) (.o 27 (.pick (.t 17) (.t 26) (.c (.bool false))) .nil))))) [] []) C63_6
def C63_8 : AC := .seq (.seq (.reg (.o 13 (.load1 .sl (.t 1)) (.o 14 (.len (.t 13)) (.o 5 (.mov (.t 14)) .nil))) []) C63_7) C63_4
def C63_9 : AC := .seq (.drw (.o 6 (.mov (.t 0)) (.o 7 (.slc 1 (.t 6) none (some (.c (.int .i64 8))) none) (.o 8 (.callR 55 (.t 7) (.r (.one (.int .u64)))) (.o 9 (.mov (.t 0)) (.o 10 (.slc 1 (.t 9) (some (.c (.int .i64 8))) none none) (.o 11 (.callR 55 (.t 10) (.r (.one (.int .u64)))) (.o 12 (.build [.int .u64 0, .int .u64 0] [(0, 1, (.t 8)), (1, 1, (.t 11))]) (.o 4 (.alloc [.int .u64 0, .int .u64 0]) (.op none (.store 2 (.t 4) (.t 12)) .nil))))))))) [(1, 7), (4, 7)] []) C63_8
def C63_10 : AC := .seq (.reg (.o 3 (.mov (.c (.int .i64 0))) .nil) []) C63_9
def F63 : AFunc := { ntmps := 32, results := [.tmp 3], body := C63_10 }
def p63_0 (x0_1a : Ad) (x0_1l : Nat) (x0_1c : Cap) (x1_2 : Ad) (M : Mem) : Rs := run false call meth F63.results [.code C63_10] (some (.sl x0_1a x0_1l x0_1c) :: some (.ptr x1_2) :: nn 30 []) M
def p63_1 (x1_118 : Ad) (x4_119 : Nat) (M : Mem) : Rs := run false call meth F63.results [.code C63_3] (none :: some (.ptr x1_118) :: none :: none :: some (.ptr (some (x4_119, 0))) :: nn 27 []) M
theorem p63_0_eq (x0_1a : Ad) (x0_1l : Nat) (x0_1c : Cap) (x1_2 : Ad) (M : Mem) : p63_0 call meth x0_1a x0_1l x0_1c x1_2 M = (slcK false 1 x0_1a x0_1l x0_1c M none (some (.int .i64 8)) none fun s101a s101l s101c => (readK call 55 M (.sl s101a s101l s101c) fun r102 => (Option.bind (r102.int? .u64) fun x103 => (slcK false 1 x0_1a x0_1l x0_1c M (some (.int .i64 8)) none none fun s104a s104l s104c => (readK call 55 M (.sl s104a s104l s104c) fun r105 => (Option.bind (r105.int? .u64) fun x106 => (let M107 := M.alloc ⟨[.int .u64 0, .int .u64 0], .fixed⟩; (Option.bind (M107.st M.n 0 [.int .u64 x103, .int .u64 x106]) fun M108 => (cond (cond (Option.getD (slcK false 1 x0_1a x0_1l x0_1c M107 none (some (.int .i64 8)) none fun s109a s109l s109c => some (AVal.same (.sl s109a s109l s109c) (.sl s101a s101l s101c))) false) (cond (Option.getD (slcK false 1 x0_1a x0_1l x0_1c M107 (some (.int .i64 8)) none none fun s110a s110l s110c => some (AVal.same (.sl s110a s110l s110c) (.sl s104a s104l s104c))) false) true false) false) (Option.bind x1_2 fun p111 => (Option.bind (M108.ldL p111.1 p111.2) fun x112 => (cond (decide (((x112.2.1 : Nat) : Int) > 0)) (Option.bind (M108.ldI .u64 M.n 0) fun x113 => (Option.bind x1_2 fun p114 => (Option.bind (M108.ldL p114.1 p114.2) fun x115 => (cond (decide (0 ≤ (IntKind.wrap .i64 (((x112.2.1 : Nat) : Int) - 1)))) (cond (Nat.blt ((IntKind.wrap .i64 (((x112.2.1 : Nat) : Int) - 1)).toNat) x115.2.1) (Option.bind (slPtr x115.1 x115.2.2) fun p116 => (Option.bind (M108.ldI .u64 p116.1 ((p116.2 + ((IntKind.wrap .i64 (((x112.2.1 : Nat) : Int) - 1)).toNat) * 2) + 0)) fun x117 => (cond (decide (x113 ≤ x117)) (some (.int .i64 190, M108)) (p63_1 call meth x1_2 M.n M108)))) none) none)))) (p63_1 call meth x1_2 M.n M108)))) none))))))))) :=
  (seg_run false call meth F63.results 100000 [.code C63_10] _ M).symm.trans (by kernel_rfl)
theorem p63_1_eq (x1_118 : Ad) (x4_119 : Nat) (M : Mem) : p63_1 call meth x1_118 x4_119 M = (Option.bind x1_118 fun p201 => (Option.bind (M.ldL p201.1 p201.2) fun x202 => (Option.bind (M.ldI .u64 x4_119 0) fun x203 => (Option.bind (M.ldI .u64 x4_119 1) fun x204 => (let M205 := M.alloc ⟨[.int .u64 x203, .int .u64 x204], .fixed⟩; (appK false 2 16 M205 x202.1 x202.2.1 x202.2.2 (.sl (some (M.n, 0)) 1 (.known 1)) fun s206a s206l s206c M207 => (Option.bind x1_118 fun p209 => (Option.bind (M207.st p209.1 p209.2 [.sl s206a s206l s206c]) fun M208 => (some (.int .i64 0, M208)))))))))) :=
  (seg_run false call meth F63.results 100000 [.code C63_3] _ M).symm.trans (by kernel_rfl)
theorem run63 (x0_1a : Ad) (x0_1l : Nat) (x0_1c : Cap) (x1_2 : Ad) (M : Mem) : run false call meth F63.results [.code F63.body] (frame0 F63 [.sl x0_1a x0_1l x0_1c, .ptr x1_2]) M = p63_0 call meth x0_1a x0_1l x0_1c x1_2 M := by kernel_rfl
theorem ok63 : okFn Try.prog 63 F63 = true := by kernel_rfl
end
end Go.Proofs.Ytmkncifbammfjaa.M
