/- Slices of bytes at the front of an object that may be written. -/
import Derived.Test.YtfdlmneofbcpnaaRC
import Derived.Test.YtfdlmneofbcpnaaXLib6
set_option linter.unusedVariables false
set_option linter.unusedSimpArgs false
set_option linter.unnecessarySimpa false
namespace Go.Proofs.Ytfdlmneofbcpnaa.M
open Go.Abs

/-- A slice of the book: bytes, at the front of an object that may be written. -/
structure BkS (M : Mem) (v : SlV) (xs : List Int) : Prop where
  len : xs.length = v.2.1
  ex : 0 < v.2.1 → ∃ (o : Nat) (cs : List Int) (k : OKind), v.1 = some (o, 0) ∧ M.get o = some ⟨cs.map (.int .u8), k⟩ ∧ v.2.1 ≤ cs.length ∧ cs.take v.2.1 = xs ∧ ((v.2.2 = .unk 0 ∧ k = .grow 1) ∨ ∃ m, v.2.2 = .known m ∧ v.2.1 ≤ m ∧ k = .fixed)
section
variable {M M' : Mem} {v : SlV} {xs : List Int}
theorem fpS_of {o : Nat} (h : v.1 = some (o, 0)) (h0 : 0 < v.2.1) : fpS v = [o] := by unfold fpS; rw [if_neg (by omega), h]; rfl
theorem BkS.same (h : BkS M v xs) (hg : ∀ o ∈ fpS v, M'.get o = M.get o) : BkS M' v xs := by
  refine ⟨h.len, fun h0 => ?_⟩
  obtain ⟨o, cs, k, e1, e2, e3⟩ := h.ex h0
  exact ⟨o, cs, k, e1, (hg o (by rw [fpS_of e1 h0]; simp)).trans e2, e3⟩
theorem BkS.bytes (h : BkS M v xs) : M.bytesAt v = some xs := by
  by_cases h0 : v.2.1 = 0
  · unfold Mem.bytesAt
    rw [h0, ints_zero]
    have := h.len
    rw [List.length_eq_zero_iff.1 (show xs.length = 0 by omega)]
  · obtain ⟨o, cs, k, e1, e2, e3, e4, e5⟩ := h.ex (by omega)
    unfold Mem.bytesAt
    rw [e1]
    refine ints_of e2 (by rcases e5 with ⟨_, rfl⟩ | ⟨m, _, _, rfl⟩ <;> simp) (by rcases e5 with ⟨e, _⟩ | ⟨m, e, _⟩ <;> rw [e] <;> rfl) (by simpa using e3) (by rw [List.drop_zero, ← List.map_take, e4])
theorem BkS.lt (h : BkS M v xs) : ∀ o ∈ fpS v, o < M.n := bytesAt_lt h.bytes
theorem BkS.own (h : Own1 M v xs) : BkS M v xs := ⟨h.1, fun h0 => by
  obtain ⟨o, e1, e2, g⟩ := h.2 h0
  exact ⟨o, xs, _, e1, g, by rw [h.1]; exact Nat.le_refl _, List.take_of_length_le (by rw [h.1]; exact Nat.le_refl _), .inl ⟨e2, rfl⟩⟩⟩
theorem BkS.cut {n : Nat} {kk : IntKind} (h : BkS M v xs) (h0 : 0 < v.2.1) (hn : n ≤ v.2.1) :
    (∀ {β : Type} (K : Option (Nat × Nat) → Nat → Cap → Option β), slcK false 1 v.1 v.2.1 v.2.2 M none (some (.int kk (n : Int))) none K = K v.1 n v.2.2) ∧ BkS M (v.1, n, v.2.2) (xs.take n) ∧ (∀ o ∈ fpS (v.1, n, v.2.2), o ∈ fpS v) := by
  obtain ⟨o, cs, k, e1, e2, e3, e4, e5⟩ := h.ex h0
  have hl := h.len
  refine ⟨fun K => ?_, ⟨by simp; omega, fun _ => ⟨o, cs, k, e1, e2, Nat.le_trans hn e3, by rw [← e4, List.take_take, Nat.min_eq_left hn], ?_⟩⟩, fun q hq => ?_⟩
  · rw [e1]
    rcases e5 with ⟨e, rfl⟩ | ⟨m, e, hm, rfl⟩
    · rw [e]; exact slcK_own_to e2 (.inl rfl) (by simp; omega)
    · rw [e, slcK_known_to (Nat.le_trans hn hm)]
      cases Nat.beq m 0 <;> rfl
  · rcases e5 with ⟨e, rfl⟩ | ⟨m, e, hm, rfl⟩
    · exact .inl ⟨e, rfl⟩
    · exact .inr ⟨m, e, Nat.le_trans hn hm, rfl⟩
  · rw [fpS_of e1 h0]
    unfold fpS at hq
    split at hq
    · simp at hq
    · simpa [e1, fpOf] using hq
theorem BkS.put {i : Nat} {y : Int} (h : BkS M v xs) (hi : i < v.2.1) : ∃ o M', slPtr v.1 v.2.2 = some (o, 0) ∧ M.st o i [.int .u8 y] = some M' ∧ BkS M' v (xs.set i y) ∧ M'.n = M.n ∧ Mem.But (· = o) M M' ∧ o ∈ fpS v := by
  obtain ⟨o, cs, k, e1, e2, e3, e4, e5⟩ := h.ex (by omega)
  have hl := h.len
  have hm : k.mine = true := by rcases e5 with ⟨_, rfl⟩ | ⟨m, _, _, rfl⟩ <;> rfl
  have s1 := st_mine (i := i) (vs := [.int .u8 y]) e2 hm (by simp; omega)
  rw [overL_one, ← List.map_set] at s1
  refine ⟨o, _, ?_, s1, ⟨by rw [List.length_set]; exact hl, fun _ => ⟨o, cs.set i y, k, e1, get_put_self (Mem.get_lt e2), by rw [List.length_set]; exact e3, ?_, e5⟩⟩, rfl, Mem.But.put _ _ _, by rw [fpS_of e1 (by omega)]; simp⟩
  · rw [e1]; rcases e5 with ⟨e, _⟩ | ⟨m, e, _⟩ <;> rw [e] <;> rfl
  · rw [List.take_set, e4]
theorem BkS.front (h : BkS M v xs) (hl : v.2.1 ≤ 2 ^ 40) : ∃ a2 c2 M', (∀ {β : Type} (K : Option (Nat × Nat) → Nat → Cap → Mem → Option β), appK false 1 1 (M.alloc ⟨[.int .u8 0], .fixed⟩) (some (M.n, 0)) 1 (.known 1) (.sl v.1 v.2.1 v.2.2) K = K a2 (v.2.1 + 1) c2 M') ∧ BkS M' (a2, v.2.1 + 1, c2) (0 :: xs) ∧ M.Upto M' ∧ (∀ o ∈ fpS (a2, v.2.1 + 1, c2), M.n ≤ o ∧ o < M'.n) := by
  have hxl := h.len
  have u1 := Mem.Upto.alloc M ⟨[.int .u8 0], .fixed⟩
  have g1 := get_alloc_self M ⟨[.int .u8 0], .fixed⟩
  by_cases h0 : v.2.1 = 0
  · have hx0 : xs = [] := List.length_eq_zero_iff.1 (by omega)
    subst hx0
    rw [h0]
    refine ⟨some (M.n, 0), .known 1, _, fun K => appK_none (Nat.le_refl 1), ⟨rfl, fun _ => ⟨M.n, [0], .fixed, rfl, g1, Nat.le_refl _, rfl, .inr ⟨1, rfl, Nat.le_refl _, rfl⟩⟩⟩, u1, fun o ho => ?_⟩
    rw [fpS_of (o := M.n) rfl (by simp)] at ho
    simp only [List.mem_singleton] at ho
    subst ho
    simp
  · have hy : (M.alloc ⟨[.int .u8 0], .fixed⟩).ints .u8 v.1 v.2.1 v.2.2 = some xs := ints_upto h.bytes u1
    have hx : (M.alloc ⟨[.int .u8 0], .fixed⟩).raws 1 (some (M.n, 0)) 1 (.known 1) = some [.int .u8 0] := by
      have := ints_whole (xs := [0]) (k := .u8) (c := .known 1) g1 (by simp) rfl
      exact ints_raws.1 this
    have hn : (M.alloc ⟨[.int .u8 0], .fixed⟩).n = M.n + 1 := rfl
    have e1 : 1 + v.2.1 = v.2.1 + 1 := by omega
    have g2 := get_alloc_self (M.alloc ⟨[.int .u8 0], .fixed⟩) ⟨[.int .u8 0] ++ xs.map (.int .u8), .grow 1⟩
    refine ⟨some (M.n + 1, 0), .unk 0, _, fun K => (appK_more hx (ints_raws.1 hy) (by omega) (by omega)).trans (by rw [e1]; rfl), ⟨by simp; omega, fun _ => ⟨M.n + 1, 0 :: xs, _, rfl, g2, by simp; omega, List.take_of_length_le (by simp; omega), .inl ⟨rfl, rfl⟩⟩⟩, u1.alloc_r _, fun o ho => ?_⟩
    rw [fpS_of (o := M.n + 1) rfl (by simp)] at ho
    simp only [List.mem_singleton] at ho
    subst ho
    simp
/-- So many zeros ahead of them. -/
theorem BkS.frontN (h : BkS M v xs) {n : Nat} (hl : n + v.2.1 ≤ 2 ^ 40) : ∃ a2 c2 M', (∀ {β : Type} (K : Option (Nat × Nat) → Nat → Cap → Mem → Option β), appK false 1 1 (M.alloc ⟨replZ [.int .u8 0] n, .fixed⟩) (some (M.n, 0)) n (.known n) (.sl v.1 v.2.1 v.2.2) K = K a2 (n + v.2.1) c2 M') ∧ BkS M' (a2, n + v.2.1, c2) (List.replicate n 0 ++ xs) ∧ M.Upto M' ∧ (∀ o ∈ fpS (a2, n + v.2.1, c2), M.n ≤ o ∧ o < M'.n) ∧ (n + v.2.1 = 0 → c2 = .known 0) := by
  have hxl := h.len
  have u1 := Mem.Upto.alloc M ⟨replZ [.int .u8 0] n, .fixed⟩
  have g1 := get_alloc_self M ⟨replZ [.int .u8 0] n, .fixed⟩
  rw [replZ_int] at u1 g1 ⊢
  by_cases h0 : v.2.1 = 0
  · have hx0 : xs = [] := List.length_eq_zero_iff.1 (by omega)
    subst hx0
    rw [h0]
    refine ⟨some (M.n, 0), .known n, _, fun K => appK_none (Nat.le_refl n), ⟨by simp, fun _ => ⟨M.n, List.replicate n 0, .fixed, rfl, g1, by simp, by simp, .inr ⟨n, rfl, Nat.le_refl _, rfl⟩⟩⟩, u1, fun o ho => ?_, fun hz => by rw [show n = 0 by omega]⟩
    unfold fpS at ho
    split at ho
    · simp at ho
    · simp only [fpOf, List.mem_singleton] at ho
      subst ho
      simp
  · have hy : (M.alloc ⟨(List.replicate n 0).map (.int .u8), .fixed⟩).ints .u8 v.1 v.2.1 v.2.2 = some xs := ints_upto h.bytes u1
    have hx : (M.alloc ⟨(List.replicate n 0).map (.int .u8), .fixed⟩).raws 1 (some (M.n, 0)) n (.known n) = some ((List.replicate n (0 : Int)).map (.int .u8)) := by
      have := ints_whole (xs := List.replicate n 0) (k := .u8) (c := .known n) g1 (by simp) rfl
      rw [List.length_replicate] at this
      exact ints_raws.1 this
    have g2 := get_alloc_self (M.alloc ⟨(List.replicate n 0).map (.int .u8), .fixed⟩) ⟨(List.replicate n (0 : Int)).map (.int .u8) ++ xs.map (.int .u8), .grow 1⟩
    rw [← List.map_append] at g2
    refine ⟨some (M.n + 1, 0), .unk 0, _, fun K => (appK_more hx (ints_raws.1 hy) (by omega) (by omega)).trans (by rw [← List.map_append]; rfl), ⟨by simp; omega, fun _ => ⟨M.n + 1, List.replicate n 0 ++ xs, _, rfl, g2, by simp; omega, List.take_of_length_le (by simp; omega), .inl ⟨rfl, rfl⟩⟩⟩, u1.alloc_r _, fun o ho => ?_, fun hz => absurd hz (by omega)⟩
    rw [fpS_of (o := M.n + 1) rfl (by simp; omega)] at ho
    simp only [List.mem_singleton] at ho
    subst ho
    simp
/-- What is cut off ahead. -/
theorem BkS.cutFrom {n : Nat} {kk : IntKind} (h : BkS M v xs) (hz : v.2.1 = 0 → v.2.2 = .known 0) (hn : n ≤ v.2.1) :
    ∃ a2 c2, (∀ {β : Type} (K : Option (Nat × Nat) → Nat → Cap → Option β), slcK false 1 v.1 v.2.1 v.2.2 M (some (.int kk (n : Int))) none none K = K a2 (v.2.1 - n) c2) ∧ M.ints .u8 a2 (v.2.1 - n) c2 = some (xs.drop n) := by
  have hl := h.len
  by_cases h0 : v.2.1 = 0
  · obtain rfl : n = 0 := by omega
    rw [hz h0, h0]
    exact ⟨_, _, fun K => slcK_known_from (Nat.le_refl _) (Nat.le_refl _), by rw [List.length_eq_zero_iff.1 (show xs.length = 0 by omega)]; rfl⟩
  obtain ⟨o, cs, k, e1, e2, e3, e4, e5⟩ := h.ex (by omega)
  have key : ∀ c, slPtr (some (o, n)) c = some (o, n) → M.ints .u8 (some (o, n)) (v.2.1 - n) c = some (xs.drop n) := fun c hc => by
    have := ints_part (l := v.2.1 - n) e2 (by rcases e5 with ⟨_, rfl⟩ | ⟨m, _, _, rfl⟩ <;> simp) hc (by omega)
    rw [this, ← e4, List.drop_take]
  rw [e1]
  rcases e5 with ⟨e, rfl⟩ | ⟨m, e, hm, rfl⟩
  · rw [e]
    have hs := fun {β : Type} (K : Option (Nat × Nat) → Nat → Cap → Option β) => slcK_own_from (K := K) (len := v.2.1) (l := n) (kl := kk) e2 (.inl rfl) (by simp; omega) hn
    by_cases ez : n = v.2.1
    · have e6 : (Nat.beq n v.2.1 && Nat.blt 0 n) = true := by rw [ez, Nat.beq_refl, Mem.blt_iff.2 (by omega)]; rfl
      rw [e6] at hs
      exact ⟨_, _, fun K => (hs K).trans (by rw [cond_true, ez, Nat.sub_self]), by rw [ez, Nat.sub_self, List.drop_eq_nil_of_le (by omega)]; rfl⟩
    · have e6 : (Nat.beq n v.2.1 && Nat.blt 0 n) = false := by rw [Go.Abs.beq_false ez]; rfl
      rw [e6] at hs
      exact ⟨_, _, fun K => (hs K).trans (by rw [cond_false]), by rw [Nat.mul_one]; exact key _ rfl⟩
  · rw [e]
    have hs := fun {β : Type} (K : Option (Nat × Nat) → Nat → Cap → Option β) => slcK_known_from (M := M) (s := 1) (K := K) (a := some (o, 0)) (len := v.2.1) (n := m) (l := n) (kl := kk) hn hm
    by_cases ez : m = n
    · have e7 : v.2.1 - n = 0 := by omega
      refine ⟨_, _, fun K => hs K, ?_⟩
      rw [e7, List.drop_eq_nil_of_le (by omega)]; rfl
    · rw [Go.Abs.beq_false ez] at hs
      refine ⟨_, _, fun K => (hs K).trans (by rw [cond_false]), ?_⟩
      simpa [adv] using key (.known (m - n)) rfl
/-- So many zeros behind bytes of one's own. -/
theorem Own1.zeros (h : Own1 M v xs) (hz : v.2.1 = 0 → v.2.2 = .known 0) {n : Nat} (hl : v.2.1 + n ≤ 2 ^ 40) : ∃ a2 c2 M', (∀ {β : Type} (K : Option (Nat × Nat) → Nat → Cap → Mem → Option β), appK false 1 1 M v.1 v.2.1 v.2.2 (.str (zerosB n)) K = K a2 (v.2.1 + n) c2 M') ∧ Own1 M' (a2, v.2.1 + n, c2) (xs ++ List.replicate n 0) ∧ M.n ≤ M'.n ∧ Mem.But (· ∈ fpS v) M M' ∧ (∀ o ∈ fpS (a2, v.2.1 + n, c2), o ∈ fpS v ∨ M.n ≤ o) ∧ (v.2.1 + n = 0 → c2 = .known 0) := by
  have hxl := h.1
  by_cases h0 : v.2.1 = 0
  · have hx0 : xs = [] := List.length_eq_zero_iff.1 (by omega)
    subst hx0
    rw [h0, hz h0]
    by_cases hn : n = 0
    · subst hn
      refine ⟨v.1, .known 0, M, fun K => appZ_none (Nat.le_refl 0), ⟨rfl, fun hh => by simp at hh⟩, Nat.le_refl _, Mem.But.refl _ _, fun o ho => by simp [fpS] at ho, fun _ => rfl⟩
    · have g2 := get_alloc_self M ⟨[] ++ (List.replicate n (0 : Int)).map (.int .u8), .grow 1⟩
      refine ⟨some (M.n, 0), .unk 0, _, fun K => appZ_more (xs := []) (raws_zero M 1 v.1 (.known 0)) (by omega) (by omega), ⟨by simp, fun _ => ⟨M.n, rfl, rfl, by rw [g2]; simp⟩⟩, by simp, (Mem.Upto.alloc _ _).but _, fun o ho => ?_, fun hh => absurd hh (by omega)⟩
      right
      unfold fpS at ho
      split at ho
      · simp at ho
      · simp only [fpOf, List.mem_singleton] at ho; omega
  · obtain ⟨o, e1, e2, g⟩ := h.2 (by omega)
    have hol := Mem.get_lt g
    have hfp : fpS v = [o] := fpS_of e1 (by omega)
    rw [e1, e2, hfp]
    by_cases hn : n = 0
    · subst hn
      refine ⟨some (o, 0), .unk 0, M, fun K => appZ_grow0 g (by simp; omega), ⟨by simpa using hxl, fun _ => ⟨o, rfl, rfl, by simpa using g⟩⟩, Nat.le_refl _, Mem.But.refl _ _, fun q hq => .inl ?_, fun hh => absurd hh (by omega)⟩
      rw [fpS_of (o := o) rfl (by simp; omega)] at hq
      exact hq
    · have g2 := get_alloc_self (M.put o ⟨[], .dead⟩) ⟨xs.map (.int .u8) ++ (List.replicate n (0 : Int)).map (.int .u8), .grow 1⟩
      rw [← List.map_append] at g2
      refine ⟨some (M.n, 0), .unk 0, _, fun K => (appZ_grow g (by simp; omega) (by omega) (by omega)).trans (by rw [← List.map_append]), ⟨by simp; omega, fun _ => ⟨M.n, rfl, rfl, g2⟩⟩, by simp, ⟨by simp, fun q hq hne => ?_⟩, fun q hq => .inr ?_, fun hh => absurd hh (by omega)⟩
      · simp only [List.mem_singleton] at hne
        rw [get_alloc_lt (by simpa using hq), get_put_ne hne]
      · rw [fpS_of (o := M.n) rfl (by simp; omega)] at hq
        simp only [List.mem_singleton] at hq
        omega
end
end Go.Proofs.Ytfdlmneofbcpnaa.M
