import Derived.Test.YtmkncifbammfjaaT
import Derived.Test.YtmkncifbammfjaaXLib4
import Derived.Test.YtmkncifbammfjaaXLib7
import Derived.Test.YtmkncifbammfjaaXLaw
import Derived.Test.YtmkncifbammfjaaXFc
set_option linter.unusedVariables false
set_option linter.unusedSimpArgs false
set_option linter.unnecessarySimpa false
set_option maxRecDepth 100000
namespace Go.Proofs.Ytmkncifbammfjaa.M
open Go.Abs Go.RowKit
abbrev Pr := Int × Int
def encP (p : Pr) : List AVal := [.int .u64 p.1, .int .u64 p.2]
theorem encP2 : Enc 2 encP := fun _ => rfl
section
variable {M M' : Mem} {a a' : Option (Nat × Nat)} {l l' : Nat} {c c' : Cap} {xs ys : List Pr}
theorem pr_ld (h : Sl M 2 encP a l c xs) {i : Nat} (hi : i < l) : ∃ p, slPtr a c = some p ∧ M.ldI .u64 p.1 (p.2 + i * 2) = some (xs[i]'(by have := h.2; omega)).1 ∧ M.ldI .u64 p.1 (p.2 + i * 2 + 1) = some (xs[i]'(by have := h.2; omega)).2 := by
  obtain ⟨p, h1, h2⟩ := h.get encP2 (by omega) hi
  have h3 := h2 0 (by omega)
  have h4 := h2 1 (by omega)
  refine ⟨p, h1, ldI_ld.2 ?_, ldI_ld.2 ?_⟩
  · rw [Nat.add_zero] at h3; exact h3
  · rw [Nat.add_assoc]; exact h4
def Inc (xs : List Pr) : Prop := ∀ i (h : i + 1 < xs.length), (xs[i]'(by omega)).1 < (xs[i + 1]'h).1
theorem Inc.lt (h : Inc xs) : ∀ (d i : Nat) (hj : i + d + 1 < xs.length), (xs[i]'(by omega)).1 < (xs[i + d + 1]'hj).1
  | 0, i, hj => h i hj
  | d + 1, i, hj => Int.lt_trans (Inc.lt h d i (by omega)) (h (i + d + 1) hj)
open Classical in
noncomputable def chk (xs : List Pr) : Int := if xs.length > 64 then 3 else if Inc xs then 0 else 190
theorem chk_zero (h : chk xs = 0) : xs.length ≤ 64 ∧ Inc xs := by
  unfold chk at h
  split at h
  · cases h
  · split at h
    · exact ⟨by omega, by assumption⟩
    · cases h
theorem chk_of (h : xs.length ≤ 64) (h2 : Inc xs) : chk xs = 0 := by unfold chk; rw [if_neg (by omega), if_pos h2]
theorem TCheck_C (h : Sl M 2 encP a l c xs) : C 30 [.sl a l c] M = some (.int .i64 (chk xs), M) := by
  have hE := p30_0_eq C prog.meth a l c M
  have hl := h.2
  by_cases h0 : (l : Int) > 64
  · simp only [h0, decide_true, cond_true] at hE
    rw [show chk xs = 3 by unfold chk; rw [if_pos (by omega)]]
    exact c30 hE
  · simp only [h0, decide_false, cond_false] at hE
    have loop : ∀ (d i : Nat), i + d = l → (∀ j (hj2 : j + 1 < l), j + 1 < i → (xs[j]'(by omega)).1 < (xs[j + 1]'(by omega)).1) → p30_1 C prog.meth a l c (l : Int) (i : Int) M = some (.int .i64 (chk xs), M) := by
      intro d
      induction d with
      | zero =>
        intro i hi hs
        have hF := p30_1_eq C prog.meth a l c (l : Int) (i : Int) M
        have q : ¬ ((i : Int) < (l : Int)) := by omega
        simp only [q, decide_false, cond_false] at hF
        rw [chk_of (by omega) (fun j hj => hs j (by omega) (by omega))]
        exact hF
      | succ d ih =>
        intro i hi hs
        have hF := p30_1_eq C prog.meth a l c (l : Int) (i : Int) M
        have q : ((i : Int) < (l : Int)) := by omega
        have hw : IntKind.wrap .i64 ((i : Int) + 1) = ((i + 1 : Nat) : Int) := by rw [wrap_i64 (by omega) (by omega)]; rfl
        by_cases h1 : (i : Int) > 0
        · obtain ⟨m, rfl⟩ : ∃ m, i = m + 1 := ⟨i - 1, by omega⟩
          have hw2 : IntKind.wrap .i64 (((m + 1 : Nat) : Int) - 1) = (m : Int) := by rw [wrap_i64 (by omega) (by omega)]; omega
          have c0 : (0 : Int) ≤ ((m + 1 : Nat) : Int) := by omega
          have c1 : Nat.blt (m + 1) l = true := Mem.blt_iff.2 (by omega)
          have c2 : Nat.blt m l = true := Mem.blt_iff.2 (by omega)
          have c3 : (0 : Int) ≤ (m : Int) := by omega
          obtain ⟨p, hp, l1, _⟩ := pr_ld h (i := m + 1) (by omega)
          obtain ⟨p', hp', l2, _⟩ := pr_ld h (i := m) (by omega)
          rw [hp] at hp'; cases hp'
          by_cases h2 : (xs[m + 1]'(by omega)).1 ≤ (xs[m]'(by omega)).1
          · simp only [int?_int, rvs, Int.reduceBEq, Int.reduceBNe, Int.cast_ofNat_Int, q, h1, c0, c1, c2, c3, Int.toNat_natCast, hp, Nat.add_zero, l1, hw2, l2, h2] at hF
            have : chk xs = 190 := by
              unfold chk
              rw [if_neg (by omega), if_neg (fun hI => by have := hI m (by omega); omega)]
            rw [this]; exact hF
          · simp only [int?_int, rvs, Int.reduceBEq, Int.reduceBNe, Int.cast_ofNat_Int, q, h1, c0, c1, c2, c3, Int.toNat_natCast, hp, Nat.add_zero, l1, hw2, l2, h2, hw] at hF
            rw [hF]
            exact ih (m + 1 + 1) (by omega) (fun j hj2 hj => by
              by_cases e : j + 1 < m + 1
              · exact hs j hj2 e
              · obtain rfl : j = m := by omega
                omega)
        · simp only [int?_int, rvs, Int.reduceBEq, Int.reduceBNe, Int.cast_ofNat_Int, q, h1, hw] at hF
          rw [hF]
          exact ih (i + 1) (by omega) (fun j hj2 hj => by omega)
    exact c30 (hE.trans (loop l 0 (by omega) (fun j hj2 hj => by omega)))
theorem TRCheck_C (h : Sl M 2 encP a l c xs) : C 32 [.sl a l c] M = some (.int .i64 (chk xs), M) := by
  have hE := p32_0_eq C prog.meth a l c M
  have hl := h.2
  by_cases h0 : (l : Int) > 64
  · simp only [h0, decide_true, cond_true] at hE
    rw [show chk xs = 3 by unfold chk; rw [if_pos (by omega)]]
    exact c32 hE
  · simp only [h0, decide_false, cond_false] at hE
    have loop : ∀ (d m : Nat), l ≤ m + 1 + d → (∀ j (hj2 : j + 1 < l), j < m → (xs[j]'(by omega)).1 < (xs[j + 1]'(by omega)).1) → p32_1 C prog.meth a l c ((m + 1 : Nat) : Int) M = some (.int .i64 (chk xs), M) := by
      intro d
      induction d with
      | zero =>
        intro m hi hs
        have hF := p32_1_eq C prog.meth a l c ((m + 1 : Nat) : Int) M
        have q : ¬ (((m + 1 : Nat) : Int) < (l : Int)) := by omega
        simp only [q, decide_false, cond_false] at hF
        rw [chk_of (by omega) (fun j hj => hs j (by omega) (by omega))]
        exact hF
      | succ d ih =>
        intro m hi hs
        have hF := p32_1_eq C prog.meth a l c ((m + 1 : Nat) : Int) M
        by_cases q : ((m + 1 : Nat) : Int) < (l : Int)
        rotate_left
        · simp only [q, decide_false, cond_false] at hF
          rw [chk_of (by omega) (fun j hj => hs j (by omega) (by omega))]
          exact hF
        have hw : IntKind.wrap .i64 (((m + 1 : Nat) : Int) + 1) = ((m + 1 + 1 : Nat) : Int) := by rw [wrap_i64 (by omega) (by omega)]; rfl
        have hw2 : IntKind.wrap .i64 (((m + 1 : Nat) : Int) - 1) = (m : Int) := by rw [wrap_i64 (by omega) (by omega)]; omega
        have c0 : (0 : Int) ≤ ((m + 1 : Nat) : Int) := by omega
        have c1 : Nat.blt (m + 1) l = true := Mem.blt_iff.2 (by omega)
        have c2 : Nat.blt m l = true := Mem.blt_iff.2 (by omega)
        have c3 : (0 : Int) ≤ (m : Int) := by omega
        obtain ⟨p, hp, l1, _⟩ := pr_ld h (i := m + 1) (by omega)
        obtain ⟨p', hp', l2, _⟩ := pr_ld h (i := m) (by omega)
        rw [hp] at hp'; cases hp'
        by_cases h2 : (xs[m + 1]'(by omega)).1 ≤ (xs[m]'(by omega)).1
        · simp only [int?_int, rvs, Int.reduceBEq, Int.reduceBNe, Int.cast_ofNat_Int, q, c0, c1, c2, c3, Int.toNat_natCast, hp, Nat.add_zero, l1, hw2, l2, h2] at hF
          have : chk xs = 190 := by
            unfold chk
            rw [if_neg (by omega), if_neg (fun hI => by have := hI m (by omega); omega)]
          rw [this]; exact hF
        · simp only [int?_int, rvs, Int.reduceBEq, Int.reduceBNe, Int.cast_ofNat_Int, q, c0, c1, c2, c3, Int.toNat_natCast, hp, Nat.add_zero, l1, hw2, l2, h2, hw] at hF
          rw [hF]
          exact ih (m + 1) (by omega) (fun j hj2 hj => by
            by_cases e : j < m
            · exact hs j hj2 e
            · obtain rfl : j = m := by omega
              omega)
    exact c32 (hE.trans (loop l 0 (by omega) (fun j hj2 hj => by omega)))
end
end Go.Proofs.Ytmkncifbammfjaa.M
