import Derived.Test.YtidofnpfeibbfaaXRen
import Derived.Test.YtidofnpfeibbfaaProg
set_option linter.unusedVariables false
set_option maxRecDepth 100000
namespace Go.Proofs.Ytidofnpfeibbfaa.M
open Go.Abs
noncomputable section
variable (call : CallF) (meth : MethF)
def C26_1 : AC := .ret
def C26_2 : AC := .seq (.reg (.o 6 (.mov (.t 0)) (.o 7 (.nilCk (.t 6)) (.o 8 (.fldA 4 (.t 7)) (.o 9 (.load1 (.int .i64) (.t 8)) (.o 2 (.mov (.t 9)) .nil))))) []) C26_1
def C26_3 : AC := .ret
def C26_4 : AC := .cond (.t 5) (.seq (.reg (.o 2 (.mov (.c (.int .i64 (-1)))) .nil) []) C26_3) .skip
def C26_5 : AC := .seq (.seq (.reg (.o 3 (.mov (.t 0)) (.o 4 (.call 46 [(.t 3)] (.r (.one .bool))) (.o 5 (.not (.t 4)) .nil))) []) C26_4) C26_2
def C26_6 : AC := .seq (.reg (.o 2 (.mov (.c (.int .i64 0))) .nil) []) C26_5
def F26 : AFunc := { ntmps := 10, results := [.tmp 2], body := C26_6 }
def p26_0 (x0_1 : Ad) (M : Mem) : Rs := run false call meth F26.results [.code C26_6] (some (.ptr x0_1) :: nn 9 []) M
theorem p26_0_eq (x0_1 : Ad) (M : Mem) : p26_0 call meth x0_1 M = (Option.bind (call 46 [.ptr x0_1] M) fun r101 => (Option.bind (r101.1.bool?) fun x102 => (cond (!x102) (some (.int .i64 (-1), r101.2)) (Option.bind x0_1 fun p103 => (Option.bind (r101.2.ldI .i64 p103.1 (p103.2 + 4)) fun x104 => (some (.int .i64 x104, r101.2))))))) :=
  (seg_run false call meth F26.results 100000 [.code C26_6] _ M).symm.trans (by kernel_rfl)
theorem run26 (x0_1 : Ad) (M : Mem) : run false call meth F26.results [.code F26.body] (frame0 F26 [.ptr x0_1]) M = p26_0 call meth x0_1 M := by kernel_rfl
theorem ok26 : okFn Try.prog 26 F26 = true := by kernel_rfl
end
end Go.Proofs.Ytidofnpfeibbfaa.M
