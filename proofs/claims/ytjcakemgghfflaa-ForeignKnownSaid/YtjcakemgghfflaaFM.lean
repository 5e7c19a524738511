import Derived.Test.YtjcakemgghfflaaA2
import Derived.Test.YtjcakemgghfflaaXWhole
set_option linter.unusedVariables false
set_option maxRecDepth 100000
namespace Go.Proofs.Ytjcakemgghfflaa.M
open Go.Abs Go.RowKit
def Mth : MethF := fun t name => cond (Nat.beq t 88 && name == "Run") (some 41) (cond (Nat.beq t 35 && name == "Run") (some 73) none)
theorem Mth_ok : MethOk Try.prog Mth := by
  intro t name f h v w
  unfold Mth at h
  cases h1 : (Nat.beq t 88 && name == "Run") with
  | true =>
    rw [h1, cond_true] at h
    simp only [Bool.and_eq_true, beq_iff_eq] at h1
    obtain rfl := Option.some.inj h
    obtain rfl : t = 88 := Nat.eq_of_beq_eq_true h1.1
    obtain rfl := h1.2
    kernel_rfl
  | false =>
    rw [h1, cond_false] at h
    cases h2 : (Nat.beq t 35 && name == "Run") with
    | true =>
      rw [h2, cond_true] at h
      simp only [Bool.and_eq_true, beq_iff_eq] at h2
      obtain rfl := Option.some.inj h
      obtain rfl : t = 35 := Nat.eq_of_beq_eq_true h2.1
      obtain rfl := h2.2
      kernel_rfl
    | false =>
      rw [h2, cond_false] at h
      cases h
end Go.Proofs.Ytjcakemgghfflaa.M
