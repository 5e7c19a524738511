/- Sums of bytes, two by two: plain. -/
import Derived.Test.YtidofnpfeibbfaaXLib7
set_option linter.unusedVariables false
set_option linter.unusedSimpArgs false
set_option linter.unnecessarySimpa false
namespace Go.Proofs.Ytidofnpfeibbfaa.M
open Go.Abs

/-- What a byte counts at a place. -/
def wt (i : Nat) : Int := if i % 2 = 0 then 256 else 1
def wsum : Nat → List Int → Int
  | _, [] => 0
  | i, c :: xs => c * wt i + wsum (i + 1) xs
theorem wsum_app : ∀ (xs ys : List Int) (i : Nat), wsum i (xs ++ ys) = wsum i xs + wsum (i + xs.length) ys
  | [], ys, i => by simp [wsum]
  | x :: xs, ys, i => by
    rw [List.cons_append, wsum, wsum, wsum_app xs ys (i + 1), List.length_cons, show i + 1 + xs.length = i + (xs.length + 1) by omega]
    omega
theorem wsum_set : ∀ (xs : List Int) (i j : Nat) (y : Int) (h : j < xs.length), wsum i (xs.set j y) = wsum i xs + (y - xs[j]'h) * wt (i + j)
  | x :: xs, i, 0, y, h => by
    simp only [List.set_cons_zero, wsum, List.getElem_cons_zero, Nat.add_zero, Int.sub_mul]
    omega
  | x :: xs, i, j + 1, y, h => by
    simp only [List.length_cons] at h
    simp only [List.set_cons_succ, wsum, List.getElem_cons_succ]
    rw [wsum_set xs (i + 1) j y (by omega), show i + 1 + j = i + (j + 1) by omega]
    omega
/-- One end folded in. -/
theorem fold_mod (n : Nat) : (n / 65536 + n % 65536) % 65535 = n % 65535 := by omega
theorem fold_lt {n : Nat} (h : 65535 < n) : n / 65536 + n % 65536 < n := by omega
/-- Two words become others; their sum stays. -/
theorem two_words {X : List Int} {p q : Nat} (hp : p % 2 = 0) (hq : q % 2 = 0) (hpq : p ≠ q) (h1 : p + 1 < X.length) (h2 : q + 1 < X.length) {a0 a1 f0 f1 : Int} (h : (a0 * 256 + a1 + (f0 * 256 + f1)) % 65535 = (X[p]'(by omega) * 256 + X[p + 1]'h1 + (X[q]'(by omega) * 256 + X[q + 1]'h2)) % 65535) :
    wsum 0 ((((X.set p a0).set (p + 1) a1).set q f0).set (q + 1) f1) % 65535 = wsum 0 X % 65535 := by
  rw [wsum_set _ _ _ _ (by simp; omega), wsum_set _ _ _ _ (by simp; omega), wsum_set _ _ _ _ (by simp; omega), wsum_set _ _ _ _ (by omega)]
  have e1 : (X.set p a0)[p + 1]'(by simp; omega) = X[p + 1]'h1 := List.getElem_set_ne (by omega) _
  have e2 : ((X.set p a0).set (p + 1) a1)[q]'(by simp; omega) = X[q]'(by omega) := by rw [List.getElem_set_ne (by omega), List.getElem_set_ne (by omega)]
  have e3 : (((X.set p a0).set (p + 1) a1).set q f0)[q + 1]'(by simp; omega) = X[q + 1]'h2 := by rw [List.getElem_set_ne (by omega), List.getElem_set_ne (by omega), List.getElem_set_ne (by omega)]
  rw [e1, e2, e3]
  have w1 : wt (0 + p) = 256 := by unfold wt; rw [if_pos (by omega)]
  have w2 : wt (0 + (p + 1)) = 1 := by unfold wt; rw [if_neg (by omega)]
  have w3 : wt (0 + q) = 256 := by unfold wt; rw [if_pos (by omega)]
  have w4 : wt (0 + (q + 1)) = 1 := by unfold wt; rw [if_neg (by omega)]
  rw [w1, w2, w3, w4]
  generalize X[p]'(by omega) = xp at *
  generalize X[p + 1]'h1 = xp1 at *
  generalize X[q]'(by omega) = xq at *
  generalize X[q + 1]'h2 = xq1 at *
  omega
end Go.Proofs.Ytidofnpfeibbfaa.M
