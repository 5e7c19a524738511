import Derived.Test.YtmkncifbammfjaaW3
set_option linter.unusedVariables false
set_option linter.unusedSimpArgs false
set_option linter.unnecessarySimpa false
set_option maxRecDepth 100000
namespace Go.Proofs.Ytmkncifbammfjaa.M
open Go.Abs Go.RowKit
section
variable {M M0 M' : Mem} {ca ta cb tb w : SlV} {code : List Ins} {tabs : List (List Pr)} {ys zs : List Int}
theorem Arg.b (h : Arg M ca ta code tabs) : ca.2.1 < 2 ^ 60 ∧ ta.2.1 < 2 ^ 60 ∧ ∀ T ∈ tabs, T.length < 2 ^ 60 := by
  have h1 := h.lc
  have h2 := h.lt
  unfold reachBytes at h1 h2
  exact ⟨by omega, by omega, fun T hT => by have := h.lp T hT; unfold reachBytes at this; omega⟩
end
end Go.Proofs.Ytmkncifbammfjaa.M
