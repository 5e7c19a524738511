/- slices.Clone, CopyBytes: slices of their own. -/
import Derived.Test.YtfdlmneofbcpnaaR
import Derived.Test.YtfdlmneofbcpnaaXLib4
set_option linter.unusedVariables false
set_option linter.unusedSimpArgs false
set_option linter.unnecessarySimpa false
set_option linter.unnecessarySimpa false
namespace Go.Proofs.Ytfdlmneofbcpnaa.M
open Go.Abs

/-- A slice of its own: nothing, or a whole object of bytes. -/
def Own1 (M : Mem) (v : SlV) (xs : List Int) : Prop := xs.length = v.2.1 ∧ (0 < v.2.1 → ∃ o, v.1 = some (o, 0) ∧ v.2.2 = .unk 0 ∧ M.get o = some ⟨xs.map (.int .u8), .grow 1⟩)
theorem Own1.bytes {M : Mem} {v : SlV} {xs : List Int} (h : Own1 M v xs) : M.bytesAt v = some xs := by
  obtain ⟨a, l, c⟩ := v
  obtain ⟨h1, h2⟩ := h
  by_cases h0 : 0 < l
  · obtain ⟨o, h3, h4, h5⟩ := h2 h0
    simp only at h1 h3 h4
    subst h1 h3 h4
    exact ints_whole h5 (by simp) rfl
  · have : l = 0 := by omega
    subst this
    have : xs = [] := List.length_eq_zero_iff.1 h1
    subst this; rfl
theorem Own1.same {M M' : Mem} {v : SlV} {xs : List Int} (h : Own1 M v xs) (hg : ∀ o ∈ fpS v, M'.get o = M.get o) : Own1 M' v xs := by
  refine ⟨h.1, fun h0 => ?_⟩
  obtain ⟨o, h3, h4, h5⟩ := h.2 h0
  exact ⟨o, h3, h4, (hg o (by unfold fpS; rw [if_neg (by omega), h3]; simp [fpOf])).trans h5⟩
theorem Own1.lt {M : Mem} {v : SlV} {xs : List Int} (h : Own1 M v xs) : ∀ o ∈ fpS v, o < M.n := bytesAt_lt h.bytes
theorem Own1.upto {M M' : Mem} {v : SlV} {xs : List Int} (h : Own1 M v xs) (hu : M.Upto M') : Own1 M' v xs := h.same (fun o ho => hu.2 o (h.lt o ho))
theorem Clone_F {a : Option (Nat × Nat)} {l : Nat} {c : Cap} {M : Mem} {xs : List Int} (hx : M.ints .u8 a l c = some xs) (hl : l ≤ 2 ^ 47) :
    ∃ M' v, C 52 [.sl a l c] M = some (.sl v.1 v.2.1 v.2.2, M') ∧ M.Upto M' ∧ Own1 M' v xs ∧ (∀ o ∈ fpS v, M.n ≤ o) ∧ (v.2.1 = 0 → v.2.2 = .known 0) := by
  have hE := p52_0_eq C prog.meth a l c M
  have hlx := ints_length hx
  cases a with
  | none =>
    simp only [Option.isNone_none, cond_true] at hE
    have h0 : xs = [] := by
      by_cases h0 : 0 < l
      · obtain ⟨p, hp, _⟩ := (ints_iff.1 hx).2 0 h0
        have := (slPtr_some hp).1; cases this
      · exact List.length_eq_zero_iff.1 (by omega)
    subst h0
    exact ⟨M, (none, 0, .known 0), c52 hE, Mem.Upto.refl M, ⟨rfl, fun h => by simp at h⟩, by simp [fpS], fun _ => rfl⟩
  | some p =>
    simp only [Option.isNone_some, cond_false] at hE
    have u1 := Mem.Upto.alloc M ⟨[], .fixed⟩
    by_cases h0 : 0 < l
    · have hx1 : (M.alloc ⟨[], .fixed⟩).raws 1 (some (M.n, 0)) 0 (.known 0) = some [] := rfl
      rw [appK_more hx1 (ints_raws.1 (ints_upto hx u1)) (by omega) (by omega)] at hE
      refine ⟨_, (some (M.n + 1, 0), 0 + l, .unk 0), c52 hE, u1.alloc_r _, ⟨by simp [hlx], fun _ => ⟨M.n + 1, rfl, rfl, ?_⟩⟩, fun o ho => ?_, fun h => absurd h (by simp; omega)⟩
      · have := get_alloc_self (M.alloc ⟨[], .fixed⟩) ⟨[] ++ xs.map (.int .u8), .grow 1⟩
        simpa using this
      · unfold fpS at ho
        split at ho
        · simp at ho
        · simp only [fpOf, List.mem_singleton] at ho; omega
    · obtain rfl : l = 0 := by omega
      rw [appK_none (Nat.le_refl 0)] at hE
      have : xs = [] := List.length_eq_zero_iff.1 hlx
      subst this
      exact ⟨_, (some (M.n, 0), 0, .known 0), c52 hE, u1, ⟨rfl, fun h => by simp at h⟩, by simp [fpS], fun _ => rfl⟩
theorem Clone_C {a : Option (Nat × Nat)} {l : Nat} {c : Cap} {M : Mem} {xs : List Int} (hx : M.ints .u8 a l c = some xs) (hl : l ≤ 2 ^ 47) :
    ∃ M' v, C 52 [.sl a l c] M = some (.sl v.1 v.2.1 v.2.2, M') ∧ M.Upto M' ∧ Own1 M' v xs ∧ (∀ o ∈ fpS v, M.n ≤ o) := by
  obtain ⟨M', v, q1, q2, q3, q4, _⟩ := Clone_F hx hl
  exact ⟨M', v, q1, q2, q3, q4⟩
theorem CopyBytes_F {a : Option (Nat × Nat)} {l : Nat} {c : Cap} {M : Mem} {xs : List Int} (hx : M.ints .u8 a l c = some xs) (hl : l ≤ 2 ^ 47) :
    ∃ M' v, C 14 [.sl a l c] M = some (.sl v.1 v.2.1 v.2.2, M') ∧ M.Upto M' ∧ Own1 M' v xs ∧ (∀ o ∈ fpS v, M.n ≤ o) ∧ (v.2.1 = 0 → v.2.2 = .known 0) := by
  have h := CopyBytes_C hx hl
  have hlx := ints_length hx
  by_cases h0 : l = 0
  · subst h0
    exact ⟨_, (none, 0, .known 0), h, Mem.Upto.refl M, ⟨hlx, fun h => by simp at h⟩, by simp [fpS], fun _ => rfl⟩
  · rw [if_neg h0] at h
    exact ⟨_, (some (M.n, 0), l, .unk 0), h, Mem.Upto.alloc _ _, ⟨hlx, fun _ => ⟨_, rfl, rfl, get_alloc_self _ _⟩⟩, fun o ho => by
      unfold fpS at ho
      split at ho
      · simp at ho
      · simp only [fpOf, List.mem_singleton] at ho; omega, fun h => absurd h h0⟩
theorem CopyBytes_O {a : Option (Nat × Nat)} {l : Nat} {c : Cap} {M : Mem} {xs : List Int} (hx : M.ints .u8 a l c = some xs) (hl : l ≤ 2 ^ 47) :
    ∃ M' v, C 14 [.sl a l c] M = some (.sl v.1 v.2.1 v.2.2, M') ∧ M.Upto M' ∧ Own1 M' v xs ∧ (∀ o ∈ fpS v, M.n ≤ o) := by
  obtain ⟨M', v, q1, q2, q3, q4, _⟩ := CopyBytes_F hx hl
  exact ⟨M', v, q1, q2, q3, q4⟩
section
variable {M : Mem} {v : SlV} {xs : List Int} {n : Nat} {kk : IntKind}
/-- What is cut off bytes of one's own. -/
theorem Own1.from (h : Own1 M v xs) (h0 : v.2.1 = 0 → v.2.2 = .known 0) (hn : n ≤ v.2.1) :
    ∃ a2 c2, (∀ {β : Type} (K : Option (Nat × Nat) → Nat → Cap → Option β), slcK false 1 v.1 v.2.1 v.2.2 M (some (.int kk (n : Int))) none none K = K a2 (v.2.1 - n) c2) ∧ M.ints .u8 a2 (v.2.1 - n) c2 = some (xs.drop n) := by
  obtain ⟨a, l, c⟩ := v
  obtain ⟨h1, h2⟩ := h
  simp only at h0 h1 h2 hn ⊢
  by_cases hz : l = 0
  · subst hz
    obtain rfl : n = 0 := by omega
    rw [h0 rfl]
    exact ⟨_, _, fun K => slcK_known_from (Nat.le_refl _) (Nat.le_refl _), by rw [List.length_eq_zero_iff.1 h1]; rfl⟩
  · obtain ⟨o, rfl, rfl, g⟩ := h2 (by omega)
    have hs := fun {β : Type} (K : Option (Nat × Nat) → Nat → Cap → Option β) => slcK_own_from (K := K) (len := l) (l := n) (kl := kk) g (.inl rfl) (by simp; omega) hn
    by_cases e : n = l
    · subst e
      have e2 : (Nat.beq n n && Nat.blt 0 n) = true := by rw [Nat.beq_refl, Mem.blt_iff.2 (by omega)]; rfl
      rw [e2] at hs
      exact ⟨_, _, fun K => (hs K).trans (by rw [cond_true, Nat.sub_self]), by rw [Nat.sub_self, List.drop_eq_nil_of_le (by omega)]; rfl⟩
    · have e2 : (Nat.beq n l && Nat.blt 0 n) = false := by rw [Go.Abs.beq_false e]; rfl
      rw [e2] at hs
      refine ⟨_, _, fun K => (hs K).trans (by rw [cond_false]), ?_⟩
      have := cut_ints g (by simp) hn (by omega)
      rw [Nat.mul_one, this, List.take_of_length_le (by simp; omega)]
theorem Own1.to (h : Own1 M v xs) (h0 : v.2.1 = 0 → v.2.2 = .known 0) (hn : n ≤ v.2.1) :
    ∃ a2 c2, (∀ {β : Type} (K : Option (Nat × Nat) → Nat → Cap → Option β), slcK false 1 v.1 v.2.1 v.2.2 M none (some (.int kk (n : Int))) none K = K a2 n c2) ∧ M.ints .u8 a2 n c2 = some (xs.take n) := by
  obtain ⟨a, l, c⟩ := v
  obtain ⟨h1, h2⟩ := h
  simp only at h0 h1 h2 hn ⊢
  by_cases hz : l = 0
  · subst hz
    obtain rfl : n = 0 := by omega
    rw [h0 rfl]
    exact ⟨_, _, fun K => slcK_known_to (Nat.le_refl _), rfl⟩
  · obtain ⟨o, rfl, rfl, g⟩ := h2 (by omega)
    refine ⟨_, _, fun K => slcK_own_to g (.inl rfl) (by simp; omega), ?_⟩
    have := cut_ints (l := 0) (h := n) g (by simp) (by omega) (by omega)
    simpa using this
end
end Go.Proofs.Ytfdlmneofbcpnaa.M
