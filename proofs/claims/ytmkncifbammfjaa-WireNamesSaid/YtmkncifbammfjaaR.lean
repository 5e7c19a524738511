import Derived.Test.YtmkncifbammfjaaXLib2
import Derived.Test.YtmkncifbammfjaaT
set_option linter.unusedVariables false
set_option linter.unusedSimpArgs false
set_option linter.unnecessarySimpa false
namespace Go.Proofs.Ytmkncifbammfjaa.M
open Go.Abs
theorem eqBytes_loop {a : Option (Nat × Nat)} {l : Nat} {c : Cap} {a' : Option (Nat × Nat)} {c' : Cap} {M : Mem} {xs ys : List Int} (hx : M.ints .u8 a l c = some xs) (hy : M.ints .u8 a' l c' = some ys) (hl : l < 2 ^ 62) :
    ∀ (d i : Nat), i + d = l → (∀ j, j < i → xs[j]? = ys[j]?) → p13_1 C prog.meth a l c a' l c' i M = some (.bool (decide (xs = ys)), M) := by
  obtain ⟨lx, gx⟩ := ints_iff.1 hx
  obtain ⟨ly, gy⟩ := ints_iff.1 hy
  intro d
  induction d with
  | zero =>
    intro i hi hj
    rw [p13_1_eq]
    have : xs = ys := by
      apply List.ext_getElem?
      intro j
      by_cases h : j < l
      · exact hj j (by omega)
      · rw [List.getElem?_eq_none (by omega), List.getElem?_eq_none (by omega)]
    have h1 : ¬ ((i : Int) < (l : Int)) := by omega
    simp [h1, this]
  | succ d ih =>
    intro i hi hj
    rw [p13_1_eq]
    have h1 : (i : Int) < (l : Int) := by omega
    have h2 : Nat.blt i l = true := Mem.blt_iff.2 (by omega)
    obtain ⟨p, hp, hpv⟩ := gx i (by omega)
    obtain ⟨q, hq, hqv⟩ := gy i (by omega)
    rw [List.getElem?_eq_getElem (by omega)] at hpv hqv
    have hw : IntKind.wrap .i64 ((i : Int) + 1) = ((i + 1 : Nat) : Int) := by rw [wrap_i64 (by omega) (by omega)]; rfl
    simp only [h1, decide_true, cond_true, Int.natCast_nonneg, Int.toNat_natCast, h2, hp, hq, Option.bind_some, Nat.mul_one, hpv, hqv, hw]
    by_cases he : xs[i] = ys[i]
    · have : (xs[i] != ys[i]) = false := by simp [he]
      rw [this, cond_false]
      refine ih (i + 1) (by omega) (fun j hj' => ?_)
      by_cases e : j = i
      · subst e; rw [List.getElem?_eq_getElem (by omega), List.getElem?_eq_getElem (by omega), he]
      · exact hj j (by omega)
    · have : (xs[i] != ys[i]) = true := by simp [he]
      rw [this, cond_true]
      have hne : xs ≠ ys := fun h => he (by subst h; rfl)
      simp [hne]
theorem EqBytes_C {a : Option (Nat × Nat)} {l : Nat} {c : Cap} {a' : Option (Nat × Nat)} {l' : Nat} {c' : Cap} {M : Mem} {xs ys : List Int} (hx : M.ints .u8 a l c = some xs) (hy : M.ints .u8 a' l' c' = some ys) (hl : l < 2 ^ 62) :
    C 13 [.sl a l c, .sl a' l' c'] M = some (.bool (decide (xs = ys)), M) := by
  refine c13 ?_
  rw [p13_0_eq]
  by_cases h : l = l'
  · subst h
    have : (((l : Nat) : Int) != (l : Int)) = false := by simp
    rw [this, cond_false]
    exact eqBytes_loop hx hy hl l 0 (by omega) (fun j hj => by omega)
  · have : (((l : Nat) : Int) != (l' : Int)) = true := by simp; omega
    rw [this, cond_true]
    have hne : xs ≠ ys := fun e => h (by rw [← ints_length hx, ← ints_length hy, e])
    simp [hne]
theorem CopyBytes_C {a : Option (Nat × Nat)} {l : Nat} {c : Cap} {M : Mem} {xs : List Int} (hx : M.ints .u8 a l c = some xs) (hl : l ≤ 2 ^ 47) :
    C 16 [.sl a l c] M = if l = 0 then some (.sl none 0 (.known 0), M) else some (.sl (some (M.n, 0)) l (.unk 0), M.alloc ⟨xs.map (.int .u8), .grow 1⟩) := by
  have h := p16_0_eq C prog.meth a l c M
  rw [appK_nil hx (by omega)] at h
  by_cases h0 : l = 0
  · rw [if_pos h0] at h ⊢; exact c16 h
  · rw [if_neg h0] at h ⊢; exact c16 h
end Go.Proofs.Ytmkncifbammfjaa.M
