import Derived.Test.YtjcakemgghfflaaXLib5
set_option linter.unusedVariables false
set_option linter.unusedSimpArgs false
set_option linter.unnecessarySimpa false
namespace Go.Abs
section
variable {β : Type} {M : Mem} {a : Option (Nat × Nat)} {l n o : Nat} {xs : List AVal} {K : Option (Nat × Nat) → Nat → Cap → Mem → Option β}
end
end Go.Abs
