/- The front of an argument. -/
import Derived.Test.YtfdlmneofbcpnaaSB
set_option linter.unusedVariables false
set_option linter.unusedSimpArgs false
set_option linter.unnecessarySimpa false
namespace Go.Proofs.Ytfdlmneofbcpnaa.M
open Go.Abs

/-- The front of bytes of an argument. -/
theorem cut_arg {M M' : Mem} {a : Option (Nat × Nat)} {l n : Nat} {c : Cap} {bytes : Nat} {k kh : IntKind} {xs : List Int} (h : Shows M (.sl bytes [.int k]) (.sl a l c)) (hx : M.ints k a l c = some xs) (h0 : 0 < n) (hn : n ≤ l) (hu : M.Upto M') :
    (∀ {β : Type} (K : Option (Nat × Nat) → Nat → Cap → Option β), slcK false 1 a l c M' none (some (.int kh (n : Int))) none K = K a n c) ∧ M'.ints k a n c = some (xs.take n) := by
  have hx' := ints_upto hx hu
  refine ⟨fun K => ?_, ?_⟩
  · rw [Shows] at h
    rcases h with h | ⟨o, h⟩ | ⟨o, len, cells, h, h2, h3, h4, h5⟩
    · cases h; omega
    · cases h; omega
    · cases h
      exact slcK_own_to (hu.get h2) (.inr rfl) (by simp at h3; omega)
  · obtain ⟨e1, e2⟩ := ints_iff.1 hx'
    refine ints_iff.2 ⟨by simp; omega, fun i hi => ?_⟩
    obtain ⟨p, q1, q2⟩ := e2 i (by omega)
    exact ⟨p, q1, by rw [q2, List.getElem?_take, if_pos hi]⟩
end Go.Proofs.Ytfdlmneofbcpnaa.M
