import Derived.Test.YtjcakemgghfflaaXRen
import Derived.Test.YtjcakemgghfflaaProg
set_option linter.unusedVariables false
set_option maxRecDepth 100000
namespace Go.Proofs.Ytjcakemgghfflaa.M
open Go.Abs
noncomputable section
variable (call : CallF) (meth : MethF)
def C9_1 : AC := .ret
def C9_2 : AC := .seq (.reg (.o 37 (.mov (.t 4)) (.o 38 (.bin .eql (.t 37) (.c (.int .i64 0))) (.o 39 (.mov (.t 38)) (.grp 39 true (.o 40 (.mov (.t 6)) (.o 41 (.bin .eql (.t 40) (.c (.int .i64 0))) .nil)) (.o 42 (.pick (.t 39) (.t 41) (.c (.bool false))) (.o 43 (.mov (.t 42)) (.grp 43 true (.o 44 (.mov (.t 3)) (.o 45 (.bin .eql (.t 44) (.c (.int .u64 27))) .nil)) (.o 46 (.pick (.t 43) (.t 45) (.c (.bool false))) (.o 47 (.mov (.t 46)) (.grp 47 true (.o 48 (.mov (.t 1)) (.o 49 (.call 13 [(.t 48)] (.r (.one .sl))) (.o 50 (.bslice (replZ [.int .u8 0] 6) [(0, 1, (.c (.int .u8 0))), (1, 1, (.c (.int .u8 1))), (2, 1, (.c (.int .u8 9))), (3, 1, (.c (.int .u8 8))), (4, 1, (.c (.int .u8 4))), (5, 1, (.c (.int .u8 5)))] 6) (.o 51 (.call 15 [(.t 49), (.t 50)] (.r (.one .bool))) .nil)))) (.o 52 (.pick (.t 47) (.t 51) (.c (.bool false))) (.o 0 (.mov (.t 52)) .nil)))))))))))) []) C9_1
def C9_3 : AC := .seq (.reg (.o 26 (.mov (.t 1)) (.o 27 (.build [.int .i64 0, .int .i64 0] [(0, 1, (.c (.int .i64 2))), (1, 1, (.c (.int .i64 3)))]) (.o 28 (.bslice [.int .u8 0] [(0, 1, (.c (.int .u8 6)))] 1) (.o 29 (.build [.int .u8 0, .int .i64 0, .sl none 0 (.known 0)] [(0, 1, (.c (.int .u8 4))), (2, 1, (.t 28))]) (.o 30 (.bslice [.int .u8 0] [(0, 1, (.c (.int .u8 1)))] 1) (.o 31 (.build [.int .u8 0, .int .i64 0, .sl none 0 (.known 0)] [(0, 1, (.c (.int .u8 2))), (2, 1, (.t 30))]) (.o 32 (.bslice [.int .u8 0, .int .i64 0, .sl none 0 (.known 0), .int .u8 0, .int .i64 0, .sl none 0 (.known 0)] [(0, 3, (.t 29)), (3, 3, (.t 31))] 2) (.o 33 (.call 19 [(.t 32)] (.r (.one .ifc))) (.o 34 (.call 12 [(.t 26), (.t 27), (.t 33), (.c (.int .u64 10))] (.tup [.one (.int .u64), .one (.int .i64)])) (.o 25 (.mov (.t 34)) (.o 35 (.ext (.t 25) 0) (.o 36 (.ext (.t 25) 1) (.o 5 (.mov (.t 35)) (.o 6 (.mov (.t 36)) .nil)))))))))))))) []) C9_2
def C9_4 : AC := .seq (.reg (.o 14 (.mov (.t 1)) (.o 15 (.build [.int .i64 0, .int .i64 0] [(0, 1, (.c (.int .i64 2))), (1, 1, (.c (.int .i64 3)))]) (.o 16 (.bslice [.int .u8 0, .int .u8 0] [(0, 1, (.c (.int .u8 9))), (1, 1, (.c (.int .u8 8)))] 2) (.o 17 (.build [.int .u8 0, .int .i64 0, .sl none 0 (.known 0)] [(0, 1, (.c (.int .u8 2))), (2, 1, (.t 16))]) (.o 18 (.build [.int .u8 0, .int .i64 0, .sl none 0 (.known 0)] [(0, 1, (.c (.int .u8 1)))]) (.o 19 (.build [.int .u8 0, .int .i64 0, .sl none 0 (.known 0)] [(0, 1, (.c (.int .u8 1))), (1, 1, (.c (.int .i64 1)))]) (.o 20 (.bslice [.int .u8 0, .int .i64 0, .sl none 0 (.known 0), .int .u8 0, .int .i64 0, .sl none 0 (.known 0), .int .u8 0, .int .i64 0, .sl none 0 (.known 0)] [(0, 3, (.t 17)), (3, 3, (.t 18)), (6, 3, (.t 19))] 3) (.o 21 (.call 19 [(.t 20)] (.r (.one .ifc))) (.o 22 (.call 12 [(.t 14), (.t 15), (.t 21), (.c (.int .u64 10))] (.tup [.one (.int .u64), .one (.int .i64)])) (.o 13 (.mov (.t 22)) (.o 23 (.ext (.t 13) 0) (.o 24 (.ext (.t 13) 1) (.o 3 (.mov (.t 23)) (.o 4 (.mov (.t 24)) .nil)))))))))))))) []) C9_3
def C9_5 : AC := .ret
def C9_6 : AC := .cond (.t 12) (.seq (.reg (.o 0 (.mov (.c (.bool false))) .nil) []) C9_5) .skip
def C9_7 : AC := .seq (.seq (.reg (.o 11 (.mov (.t 2)) (.o 12 (.bin .neq (.t 11) (.c (.int .i64 0))) .nil)) []) C9_6) C9_4
def C9_8 : AC := .seq (.reg (.o 8 (.call 21 [] (.tup [.one .ptr, .one (.int .i64)])) (.o 7 (.mov (.t 8)) (.o 9 (.ext (.t 7) 0) (.o 10 (.ext (.t 7) 1) (.o 1 (.mov (.t 9)) (.o 2 (.mov (.t 10)) .nil)))))) []) C9_7
def C9_9 : AC := .seq (.reg (.o 0 (.mov (.c (.bool false))) .nil) []) C9_8
def F9 : AFunc := { ntmps := 53, results := [.tmp 0], body := C9_9 }
theorem ok9 : okFn Try.prog 9 F9 = true := by kernel_rfl
end
end Go.Proofs.Ytjcakemgghfflaa.M
