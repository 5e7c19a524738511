import Derived.Test.YtmkncifbammfjaaIX
set_option linter.unusedVariables false
set_option linter.unusedSimpArgs false
set_option linter.unnecessarySimpa false
set_option maxRecDepth 100000
namespace Go.Proofs.Ytmkncifbammfjaa.M
open Go.Abs
section
variable {M : Mem}
theorem Check_B {op : Nat} {d s o i : Int} (h : InsnR op d s o i) : ∃ M', C 29 [.agg [.int .u8 (op : Int), .int .u8 d, .int .u8 s, .int .i16 o, .int .i32 i]] M = some (.int .i64 (errI (okB op d s o i)), M') ∧ M.Upto M' := by
  rw [← okI_B h]; exact Check_C h
end
end Go.Proofs.Ytmkncifbammfjaa.M
