import Derived.Test.YtjcakemgghfflaaXLib4
set_option linter.unusedVariables false
set_option linter.unusedSimpArgs false
namespace Go.Abs
section
variable {M : Mem} {o : Nat} {cs : List AVal}
theorem ldI_at (h : M.get o = some ⟨cs, .fixed⟩) (k : IntKind) (i : Nat) : M.ldI k o i = (cs[i]?).bind (·.int? k) := by unfold Mem.ldI; rw [ld_fix h]
theorem ldB_at (h : M.get o = some ⟨cs, .fixed⟩) (i : Nat) : M.ldB o i = (cs[i]?).bind (·.bool?) := by unfold Mem.ldB; rw [ld_fix h]
theorem ldP_at (h : M.get o = some ⟨cs, .fixed⟩) (i : Nat) : M.ldP o i = (cs[i]?).bind (·.ptr?) := by unfold Mem.ldP; rw [ld_fix h]
theorem ldL_at (h : M.get o = some ⟨cs, .fixed⟩) (i : Nat) : M.ldL o i = (cs[i]?).bind (·.sl?) := by unfold Mem.ldL; rw [ld_fix h]
theorem st_at {i : Nat} {vs : List AVal} (h : M.get o = some ⟨cs, .fixed⟩) (hle : i + vs.length ≤ cs.length) :
    ∃ M', M.st o i vs = some M' ∧ M'.get o = some ⟨overL cs i vs, .fixed⟩ ∧ M'.n = M.n ∧ Mem.But (· = o) M M' :=
  ⟨_, st_fix h hle, get_put_self (Mem.get_lt h), rfl, Mem.But.put _ _ _⟩
end
theorem alloc_at (M : Mem) (x : AObj) : ∃ M', M.alloc x = M' ∧ M'.get M.n = some x ∧ M.Upto M' ∧ M'.n = M.n + 1 := ⟨_, rfl, get_alloc_self _ _, Mem.Upto.alloc _ _, rfl⟩
def OwnK (k : IntKind) (M : Mem) (v : SlV) (xs : List Int) : Prop := xs.length = v.2.1 ∧ (0 < v.2.1 → ∃ o, v.1 = some (o, 0) ∧ v.2.2 = .unk 0 ∧ M.get o = some ⟨xs.map (.int k), .grow 1⟩)
section
variable {k : IntKind} {M M' : Mem} {v : SlV} {xs : List Int}
theorem fpS_own {o : Nat} (h : v.1 = some (o, 0)) (h0 : 0 < v.2.1) : fpS v = [o] := by unfold fpS; rw [if_neg (by omega), h]; rfl
theorem fpS_zero (h : v.2.1 = 0) : fpS v = [] := by unfold fpS; rw [if_pos h]
theorem OwnK.nil (k : IntKind) (M : Mem) : OwnK k M (none, 0, .known 0) [] := ⟨rfl, fun h => by simp at h⟩
theorem OwnK.ints (h : OwnK k M v xs) : M.ints k v.1 v.2.1 v.2.2 = some xs := by
  obtain ⟨a, l, c⟩ := v
  obtain ⟨h1, h2⟩ := h
  by_cases h0 : 0 < l
  · obtain ⟨o, h3, h4, h5⟩ := h2 h0
    simp only at h1 h3 h4
    subst h1 h3 h4
    exact ints_whole h5 (by simp) rfl
  · have : l = 0 := by omega
    subst this
    have : xs = [] := List.length_eq_zero_iff.1 h1
    subst this; rfl
theorem OwnK.same (h : OwnK k M v xs) (hg : ∀ o ∈ fpS v, M'.get o = M.get o) : OwnK k M' v xs := by
  refine ⟨h.1, fun h0 => ?_⟩
  obtain ⟨o, h3, h4, h5⟩ := h.2 h0
  exact ⟨o, h3, h4, (hg o (by rw [fpS_own h3 h0]; simp)).trans h5⟩
theorem OwnK.lt (h : OwnK k M v xs) : ∀ o ∈ fpS v, o < M.n := by
  intro o ho
  by_cases h0 : 0 < v.2.1
  · obtain ⟨q, h3, h4, h5⟩ := h.2 h0
    rw [fpS_own h3 h0] at ho
    simp only [List.mem_singleton] at ho
    subst ho
    exact Mem.get_lt h5
  · rw [fpS_zero (by omega)] at ho
    simp at ho
theorem OwnK.upto (h : OwnK k M v xs) (hu : M.Upto M') : OwnK k M' v xs := h.same (fun o ho => hu.2 o (h.lt o ho))
theorem OwnK.push {bytes : Nat} (y : Int) (h : OwnK k M v xs) (hz : v.2.1 = 0 → v.2.2 = .known 0) (hb : (v.2.1 + 1) * bytes ≤ 2 ^ 47) :
    ∃ M', (∀ {β : Type} (K : Option (Nat × Nat) → Nat → Cap → Mem → Option β), appK false 1 bytes (M.alloc ⟨[.int k y], .fixed⟩) v.1 v.2.1 v.2.2 (.sl (some (M.n, 0)) 1 (.known 1)) K = K (some (M.n + 1, 0)) (v.2.1 + 1) (.unk 0) M') ∧
      OwnK k M' (some (M.n + 1, 0), v.2.1 + 1, .unk 0) (xs ++ [y]) ∧ M'.n = M.n + 2 ∧ Mem.But (· ∈ fpS v) M M' := by
  have u1 := Mem.Upto.alloc M ⟨[.int k y], .fixed⟩
  have g1 := get_alloc_self M ⟨[.int k y], .fixed⟩
  have hy : (M.alloc ⟨[.int k y], .fixed⟩).raws 1 (some (M.n, 0)) 1 (.known 1) = some ([y].map (.int k)) := ints_raws.1 (ints_whole (xs := [y]) (k := k) (c := .known 1) g1 (by simp) rfl)
  have h1 := h.upto u1
  have hl := h.1
  have own : ∀ M' : Mem, M'.get (M.n + 1) = some ⟨(xs ++ [y]).map (.int k), .grow 1⟩ → OwnK k M' (some (M.n + 1, 0), v.2.1 + 1, .unk 0) (xs ++ [y]) := fun M' g => ⟨by simp [hl], fun _ => ⟨M.n + 1, rfl, rfl, g⟩⟩
  by_cases h0 : 0 < v.2.1
  · obtain ⟨o, e1, e2, g⟩ := h1.2 h0
    have hlt : o < M.n := by
      obtain ⟨o', e1', e2', g'⟩ := h.2 h0
      rw [e1] at e1'
      obtain rfl := (Prod.mk.inj (Option.some.inj e1')).1
      exact Mem.get_lt g'
    have g2 := get_alloc_self ((M.alloc ⟨[.int k y], .fixed⟩).put o ⟨[], .dead⟩) ⟨xs.map (.int k) ++ [y].map (.int k), .grow 1⟩
    rw [← List.map_append] at g2
    refine ⟨_, fun K => ?_, own _ g2, rfl, ⟨by simp; omega, fun q hq hne => ?_⟩⟩
    · rw [e1, e2, appK_grow g (by omega) (by simp [hl]) hy (by omega) hb, ← List.map_append]; rfl
    · rw [fpS_own e1 h0] at hne
      simp only [List.mem_singleton] at hne
      rw [get_alloc_lt (by simp; omega), get_put_ne hne, get_alloc_lt hq]
  · have hv0 : v.2.1 = 0 := by omega
    have hx0 : xs = [] := List.length_eq_zero_iff.1 (by omega)
    subst hx0
    have g2 := get_alloc_self (M.alloc ⟨[.int k y], .fixed⟩) ⟨[] ++ [y].map (.int k), .grow 1⟩
    refine ⟨_, fun K => ?_, own _ g2, rfl, (u1.alloc_r _).but _⟩
    rw [hz hv0, hv0, appK_more (raws_zero _ 1 v.1 (.known 0)) hy (by omega) (by rw [hv0] at hb; exact hb)]; rfl
theorem OwnK.fp (h : OwnK k M (some (M.n, 0), v.2.1 + 1, .unk 0) xs) : fpS ((some (M.n, 0), v.2.1 + 1, .unk 0) : SlV) = [M.n] := fpS_own rfl (by simp)
theorem OwnK.set (h : OwnK k M v xs) {i : Nat} (hi : i < v.2.1) (y : Int) : ∃ o M', slPtr v.1 v.2.2 = some (o, 0) ∧ fpS v = [o] ∧ M.st o i [.int k y] = some M' ∧ OwnK k M' v (xs.set i y) ∧ M'.n = M.n ∧ Mem.But (· = o) M M' := by
  obtain ⟨o, e1, e2, g⟩ := h.2 (by omega)
  have hl := h.1
  have s1 := st_grow (i := i) (vs := [.int k y]) g (by simp; omega)
  rw [overL_one, ← List.map_set] at s1
  exact ⟨o, _, by rw [e1, e2]; rfl, fpS_own e1 (by omega), s1, ⟨by rw [List.length_set]; exact hl, fun _ => ⟨o, e1, e2, get_put_self (Mem.get_lt g)⟩⟩, rfl, Mem.But.put _ _ _⟩
theorem OwnK.get (h : OwnK k M v xs) {i : Nat} (hi : i < v.2.1) : ∃ o, slPtr v.1 v.2.2 = some (o, 0) ∧ M.ldI k o i = some (xs[i]'(by have := h.1; omega)) := by
  obtain ⟨o, e1, e2, g⟩ := h.2 (by omega)
  have hl := h.1
  exact ⟨o, by rw [e1, e2]; rfl, ldI_ld.2 (by rw [ld_grow g]; simp [List.getElem?_eq_getElem (show i < xs.length by omega)])⟩
end
end Go.Abs
