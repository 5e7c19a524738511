import Derived.Test.YtjcakemgghfflaaXMach
set_option linter.unusedVariables false
set_option linter.unusedSimpArgs false
namespace Go.Abs
open Go.RowKit
def FnsOk (P : Program) : Nat → List (Option AFunc) → Prop
  | _, [] => True
  | n, none :: l => FnsOk P (n + 1) l
  | n, some F :: l => okFn P n F = true ∧ FnsOk P (n + 1) l
theorem FnsOk.get {P : Program} : ∀ {l : List (Option AFunc)} {n i : Nat} {F : AFunc}, FnsOk P n l → l[i]? = some (some F) → okFn P (n + i) F = true
  | [], n, i, F, _, h => by simp at h
  | x :: l, n, 0, F, hl, h => by
    simp only [List.getElem?_cons_zero, Option.some.injEq] at h
    subst h
    exact hl.1
  | x :: l, n, i + 1, F, hl, h => by
    simp only [List.getElem?_cons_succ] at h
    have hl' : FnsOk P (n + 1) l := by cases x; exact hl; exact hl.2
    have := hl'.get h
    rwa [show n + 1 + i = n + (i + 1) from by omega] at this
theorem FnsOk.all {P : Program} {A : AP} (h : FnsOk P 0 A.funcs) (f : FuncId) (F : AFunc) (hf : A.fn? f = some F) : okFn P f F = true := by
  unfold AP.fn? at hf
  cases hx : A.funcs[f]? with
  | none => simp [hx] at hf
  | some x =>
    simp only [hx, Option.join] at hf
    have := h.get (i := f) (F := F) (by rw [hx]; cases x <;> simp_all)
    simpa using this
def saysTrue : Option (AVal × Mem) → Bool
  | some (.bool b, _) => b
  | _ => false
theorem saysTrue_some {r : Option (AVal × Mem)} (h : saysTrue r = true) : ∃ M, r = some (.bool true, M) := by
  unfold saysTrue at h
  split at h
  · subst h; exact ⟨_, rfl⟩
  · cases h
end Go.Abs
