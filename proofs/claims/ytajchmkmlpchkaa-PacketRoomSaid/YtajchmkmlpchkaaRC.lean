/- slices.Clone, CopyBytes: slices of their own. -/
import Derived.Test.YtajchmkmlpchkaaR
import Derived.Test.YtajchmkmlpchkaaXLib4
set_option linter.unusedVariables false
set_option linter.unusedSimpArgs false
set_option linter.unnecessarySimpa false
set_option linter.unnecessarySimpa false
namespace Go.Proofs.Ytajchmkmlpchkaa.M
open Go.Abs

/-- A slice of its own: nothing, or a whole object of bytes. -/
def Own1 (M : Mem) (v : SlV) (xs : List Int) : Prop := xs.length = v.2.1 ∧ (0 < v.2.1 → ∃ o, v.1 = some (o, 0) ∧ v.2.2 = .unk 0 ∧ M.get o = some ⟨xs.map (.int .u8), .grow 1⟩)
theorem Own1.bytes {M : Mem} {v : SlV} {xs : List Int} (h : Own1 M v xs) : M.bytesAt v = some xs := by
  obtain ⟨a, l, c⟩ := v
  obtain ⟨h1, h2⟩ := h
  by_cases h0 : 0 < l
  · obtain ⟨o, h3, h4, h5⟩ := h2 h0
    simp only at h1 h3 h4
    subst h1 h3 h4
    exact ints_whole h5 (by simp) rfl
  · have : l = 0 := by omega
    subst this
    have : xs = [] := List.length_eq_zero_iff.1 h1
    subst this; rfl
theorem Own1.same {M M' : Mem} {v : SlV} {xs : List Int} (h : Own1 M v xs) (hg : ∀ o ∈ fpS v, M'.get o = M.get o) : Own1 M' v xs := by
  refine ⟨h.1, fun h0 => ?_⟩
  obtain ⟨o, h3, h4, h5⟩ := h.2 h0
  exact ⟨o, h3, h4, (hg o (by unfold fpS; rw [if_neg (by omega), h3]; simp [fpOf])).trans h5⟩
theorem Own1.lt {M : Mem} {v : SlV} {xs : List Int} (h : Own1 M v xs) : ∀ o ∈ fpS v, o < M.n := bytesAt_lt h.bytes
theorem Own1.upto {M M' : Mem} {v : SlV} {xs : List Int} (h : Own1 M v xs) (hu : M.Upto M') : Own1 M' v xs := h.same (fun o ho => hu.2 o (h.lt o ho))
theorem Clone_C {a : Option (Nat × Nat)} {l : Nat} {c : Cap} {M : Mem} {xs : List Int} (hx : M.ints .u8 a l c = some xs) (hl : l ≤ 2 ^ 47) :
    ∃ M' v, C 32 [.sl a l c] M = some (.sl v.1 v.2.1 v.2.2, M') ∧ M.Upto M' ∧ Own1 M' v xs ∧ (∀ o ∈ fpS v, M.n ≤ o) := by
  have hE := p32_0_eq C prog.meth a l c M
  have hlx := ints_length hx
  cases a with
  | none =>
    simp only [Option.isNone_none, cond_true] at hE
    have h0 : xs = [] := by
      by_cases h0 : 0 < l
      · obtain ⟨p, hp, _⟩ := (ints_iff.1 hx).2 0 h0
        have := (slPtr_some hp).1; cases this
      · exact List.length_eq_zero_iff.1 (by omega)
    subst h0
    exact ⟨M, (none, 0, .known 0), c32 hE, Mem.Upto.refl M, ⟨rfl, fun h => by simp at h⟩, by simp [fpS]⟩
  | some p =>
    simp only [Option.isNone_some, cond_false] at hE
    have u1 := Mem.Upto.alloc M ⟨[], .fixed⟩
    by_cases h0 : 0 < l
    · have hx1 : (M.alloc ⟨[], .fixed⟩).raws 1 (some (M.n, 0)) 0 (.known 0) = some [] := rfl
      rw [appK_more hx1 (ints_raws.1 (ints_upto hx u1)) (by omega) (by omega)] at hE
      refine ⟨_, (some (M.n + 1, 0), 0 + l, .unk 0), c32 hE, u1.alloc_r _, ⟨by simp [hlx], fun _ => ⟨M.n + 1, rfl, rfl, ?_⟩⟩, fun o ho => ?_⟩
      · have := get_alloc_self (M.alloc ⟨[], .fixed⟩) ⟨[] ++ xs.map (.int .u8), .grow 1⟩
        simpa using this
      · unfold fpS at ho
        split at ho
        · simp at ho
        · simp only [fpOf, List.mem_singleton] at ho; omega
    · obtain rfl : l = 0 := by omega
      rw [appK_none (Nat.le_refl 0)] at hE
      have : xs = [] := List.length_eq_zero_iff.1 hlx
      subst this
      exact ⟨_, (some (M.n, 0), 0, .known 0), c32 hE, u1, ⟨rfl, fun h => by simp at h⟩, by simp [fpS]⟩
theorem CopyBytes_O {a : Option (Nat × Nat)} {l : Nat} {c : Cap} {M : Mem} {xs : List Int} (hx : M.ints .u8 a l c = some xs) (hl : l ≤ 2 ^ 47) :
    ∃ M' v, C 7 [.sl a l c] M = some (.sl v.1 v.2.1 v.2.2, M') ∧ M.Upto M' ∧ Own1 M' v xs ∧ (∀ o ∈ fpS v, M.n ≤ o) := by
  have h := CopyBytes_C hx hl
  have hlx := ints_length hx
  by_cases h0 : l = 0
  · subst h0
    exact ⟨_, (none, 0, .known 0), h, Mem.Upto.refl M, ⟨hlx, fun h => by simp at h⟩, by simp [fpS]⟩
  · rw [if_neg h0] at h
    exact ⟨_, (some (M.n, 0), l, .unk 0), h, Mem.Upto.alloc _ _, ⟨hlx, fun _ => ⟨_, rfl, rfl, get_alloc_self _ _⟩⟩, fun o ho => by
      unfold fpS at ho
      split at ho
      · simp at ho
      · simp only [fpOf, List.mem_singleton] at ho; omega⟩
end Go.Proofs.Ytajchmkmlpchkaa.M
