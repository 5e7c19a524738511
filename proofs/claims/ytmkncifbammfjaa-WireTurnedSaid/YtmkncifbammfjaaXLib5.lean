import Derived.Test.YtmkncifbammfjaaXLib4
set_option linter.unusedVariables false
set_option linter.unusedSimpArgs false
set_option linter.unnecessarySimpa false
namespace Go.Abs
section
variable {β : Type} {M : Mem} {o len l' : Nat} {k : OKind} {kk : IntKind} {a a' : Option (Nat × Nat)} {c c' : Cap} {pre mid post ys : List Int}
end
end Go.Abs
