import Derived.Test.YtmkncifbammfjaaXWhole
set_option linter.unusedVariables false
set_option linter.unusedSimpArgs false
namespace Go.Abs
end Go.Abs
