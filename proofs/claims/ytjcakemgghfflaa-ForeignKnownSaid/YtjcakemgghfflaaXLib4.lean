import Derived.Test.YtjcakemgghfflaaXLib3
set_option linter.unusedVariables false
set_option linter.unusedSimpArgs false
set_option linter.unnecessarySimpa false
namespace Go.Abs
abbrev SlV := Option (Nat × Nat) × Nat × Cap
def Mem.bytesAt (M : Mem) (v : SlV) : Option (List Int) := M.ints .u8 v.1 v.2.1 v.2.2
def fpS (v : SlV) : List Nat := if v.2.1 = 0 then [] else fpOf v.1
theorem bytesAt_same {M M' : Mem} {v : SlV} (h : ∀ o ∈ fpS v, M'.get o = M.get o) : M'.bytesAt v = M.bytesAt v := by
  unfold Mem.bytesAt
  by_cases h0 : v.2.1 = 0
  · rw [h0]; rfl
  · refine ints_same fun p hp => h p.1 ?_
    unfold fpS
    rw [if_neg h0, hp]; simp [fpOf]
theorem bytesAt_lt {M : Mem} {v : SlV} {xs : List Int} (h : M.bytesAt v = some xs) : ∀ o ∈ fpS v, o < M.n := by
  intro o ho
  unfold fpS at ho
  split at ho
  · simp at ho
  · obtain ⟨a, l, c⟩ := v
    cases a with
    | none => simp [fpOf] at ho
    | some p =>
      simp only [fpOf, List.mem_singleton] at ho
      subst ho
      obtain ⟨o, i⟩ := p
      exact ints_lt h (Nat.pos_of_ne_zero (by assumption))
def Pks (M : Mem) (vs : List SlV) (pk : List (List Int)) : Prop := vs.map M.bytesAt = pk.map some
section
variable {M M' : Mem} {vs ws : List SlV} {pk qk : List (List Int)}
theorem Pks.length (h : Pks M vs pk) : vs.length = pk.length := by simpa using congrArg List.length h
theorem Pks.get (h : Pks M vs pk) {i : Nat} (hi : i < vs.length) : M.bytesAt vs[i] = some (pk[i]'(by rw [← h.length]; exact hi)) := by
  have := congrArg (fun l => l[i]?) h
  simp only [List.getElem?_map, List.getElem?_eq_getElem hi, List.getElem?_eq_getElem (show i < pk.length by rw [← h.length]; exact hi), Option.map_some, Option.some.injEq] at this
  exact this
theorem Pks.nil (M : Mem) : Pks M [] [] := rfl
theorem Pks.app (h : Pks M vs pk) (h' : Pks M ws qk) : Pks M (vs ++ ws) (pk ++ qk) := by unfold Pks; rw [List.map_append, List.map_append, h, h']
theorem Pks.one {v : SlV} {xs : List Int} (h : M.bytesAt v = some xs) : Pks M [v] [xs] := by simp [Pks, h]
theorem Pks.drop (h : Pks M vs pk) (n : Nat) : Pks M (vs.drop n) (pk.drop n) := by unfold Pks; rw [List.map_drop, List.map_drop, h]
theorem Pks.take (h : Pks M vs pk) (n : Nat) : Pks M (vs.take n) (pk.take n) := by unfold Pks; rw [List.map_take, List.map_take, h]
theorem Pks.some_of (h : Pks M vs pk) {v : SlV} (hv : v ∈ vs) : ∃ xs ∈ pk, M.bytesAt v = some xs := by
  have : M.bytesAt v ∈ vs.map M.bytesAt := List.mem_map_of_mem hv
  rw [h] at this
  obtain ⟨xs, hx, e⟩ := List.mem_map.1 this
  exact ⟨xs, hx, e.symm⟩
theorem Pks.lt (h : Pks M vs pk) : ∀ v ∈ vs, ∀ o ∈ fpS v, o < M.n := fun v hv o ho => by
  obtain ⟨xs, _, hx⟩ := h.some_of hv
  exact bytesAt_lt hx o ho
theorem Pks.same (h : Pks M vs pk) (hg : ∀ v ∈ vs, ∀ o ∈ fpS v, M'.get o = M.get o) : Pks M' vs pk := by
  unfold Pks
  rw [← h]
  exact List.map_congr_left fun v hv => bytesAt_same (hg v hv)
theorem Pks.upto (h : Pks M vs pk) (hu : M.Upto M') : Pks M' vs pk := h.same fun v hv o ho => hu.2 o (h.lt v hv o ho)
end
structure Tail {α : Type} (M : Mem) (s : Nat) (enc : α → List AVal) (a : Option (Nat × Nat)) (l : Nat) (c : Cap) (xs : List α) : Prop where
  sl : Sl M s enc a l c xs
  form : c = .known l ∨ (∃ o f cs, a = some (o, f * s) ∧ c = .unk f ∧ M.get o = some ⟨cs, .grow s⟩ ∧ cs.length = (f + l) * s ∧ cs.drop (f * s) = xs.flatMap enc) ∨
    (l = 0 ∧ ∃ o i k d cs, a = some (o, i) ∧ c = .fin k d ∧ M.get o = some ⟨cs, .grow s⟩ ∧ i + d = k * s ∧ k * s = cs.length)
section
variable {α : Type} {M M' : Mem} {s : Nat} {enc : α → List AVal} {a a' : Option (Nat × Nat)} {l l' : Nat} {c c' : Cap} {xs ys : List α}
theorem Tail.nil (M : Mem) (s : Nat) (enc : α → List AVal) : Tail M s enc none 0 (.known 0) [] := ⟨Sl.nil _ _ _ _ _, .inl rfl⟩
theorem Row.tl (h : Row M s enc a l c xs) (he : Enc s enc) : Tail M s enc a l c xs := ⟨h.sl, by
  rcases h.form with h1 | ⟨o, rfl, rfl, h3⟩
  · exact .inl h1
  · exact .inr (.inl ⟨o, 0, _, by simp, rfl, h3, by rw [flatMap_length he, h.length]; simp, by simp⟩)⟩
theorem Tail.length (h : Tail M s enc a l c xs) : xs.length = l := h.sl.2
theorem Tail.same (h : Tail M s enc a l c xs) (hg : ∀ o ∈ fpOf a, M'.get o = M.get o) : Tail M' s enc a l c xs := by
  refine ⟨h.sl.same fun p hp => hg p.1 (by subst hp; simp [fpOf]), ?_⟩
  rcases h.form with h1 | ⟨o, f, cs, rfl, h2, h3, h4⟩ | ⟨h0, o, i, k, d, cs, rfl, h2, h3, h4⟩
  · exact .inl h1
  · exact .inr (.inl ⟨o, f, cs, rfl, h2, by rw [hg o (by simp [fpOf]), h3], h4⟩)
  · exact .inr (.inr ⟨h0, o, i, k, d, cs, rfl, h2, by rw [hg o (by simp [fpOf]), h3], h4⟩)
theorem Tail.push {bytes : Nat} {y : α} {cs : List AVal} (h : Tail M s enc a l c xs) (he : Enc s enc) (hs : 0 < s) (hcs : enc y = cs) (hb : (l + 1) * bytes ≤ 2 ^ 47) (hlt : ∀ o ∈ fpOf a, o < M.n) :
    ∃ M', (∀ {β : Type} (K : Option (Nat × Nat) → Nat → Cap → Mem → Option β), appK false s bytes (M.alloc ⟨cs, .fixed⟩) a l c (.sl (some (M.n, 0)) 1 (.known 1)) K = K (some (M.n + 1, 0)) (l + 1) (.unk 0) M') ∧ Tail M' s enc (some (M.n + 1, 0)) (l + 1) (.unk 0) (xs ++ [y]) ∧
      M'.n = M.n + 2 ∧ Mem.But (· ∈ fpOf a) M M' ∧ M'.get (M.n + 1) = some ⟨(xs ++ [y]).flatMap enc, .grow s⟩ := by
  subst hcs
  have hy : (M.alloc ⟨enc y, .fixed⟩).raws s (some (M.n, 0)) 1 (.known 1) = some (enc y) := by
    have : Sl (M.alloc ⟨enc y, .fixed⟩) s enc (some (M.n, 0)) 1 (.known 1) [y] := Sl.of (get_alloc_self _ _) (by simp) rfl (by rw [he]; omega) (by rw [List.drop_zero, Nat.one_mul, List.take_of_length_le (by rw [he]; exact Nat.le_refl _)]; simp) rfl
    simpa using this.1
  have hlen : (xs ++ [y]).length = l + 1 := by rw [List.length_append, h.length]; rfl
  have key : ∀ M2 : Mem, M2.n = M.n + 2 → M2.get (M.n + 1) = some ⟨(xs ++ [y]).flatMap enc, .grow s⟩ → Tail M2 s enc (some (M.n + 1, 0)) (l + 1) (.unk 0) (xs ++ [y]) := fun M2 hn hg => by
    have h1 := Sl.whole (c := .unk 0) he hg (by simp) rfl
    rw [hlen] at h1
    exact ⟨h1, .inr (.inl ⟨M.n + 1, 0, _, by simp, rfl, hg, by rw [flatMap_length he, hlen]; simp, by simp⟩)⟩
  have hu := Mem.Upto.alloc M ⟨enc y, .fixed⟩
  have fl : (xs ++ [y]).flatMap enc = xs.flatMap enc ++ enc y := by simp [List.flatMap_append]
  rcases h.form with rfl | ⟨o, f, cs, rfl, rfl, hg, h4, h5⟩ | ⟨rfl, o, i, k, d, cs, rfl, rfl, hg, h4, h5⟩
  · have hx : (M.alloc ⟨enc y, .fixed⟩).raws s a l (.known l) = some (xs.flatMap enc) := (h.sl.upto he hs hu).1
    have hn : (M.alloc ⟨enc y, .fixed⟩).n = M.n + 1 := rfl
    have hgn := get_alloc_self (M.alloc ⟨enc y, .fixed⟩) ⟨xs.flatMap enc ++ enc y, .grow s⟩
    rw [hn, ← fl] at hgn
    refine ⟨(M.alloc ⟨enc y, .fixed⟩).alloc ⟨(xs ++ [y]).flatMap enc, .grow s⟩, fun K => ?_, key _ rfl hgn, rfl, (hu.alloc_r _).but _, hgn⟩
    rw [appK_more hx hy (by omega) hb, ← fl]; rfl
  · have hol := Mem.get_lt hg
    have hg1 := get_alloc_of (x := ⟨enc y, .fixed⟩) hg
    have hn : ((M.alloc ⟨enc y, .fixed⟩).put o ⟨[], .dead⟩).n = M.n + 1 := rfl
    have hgn := get_alloc_self ((M.alloc ⟨enc y, .fixed⟩).put o ⟨[], .dead⟩) ⟨xs.flatMap enc ++ enc y, .grow s⟩
    rw [hn, ← fl] at hgn
    refine ⟨((M.alloc ⟨enc y, .fixed⟩).put o ⟨[], .dead⟩).alloc ⟨(xs ++ [y]).flatMap enc, .grow s⟩, fun K => ?_, key _ rfl hgn, rfl, ⟨by simp; omega, fun q hq hne => ?_⟩, hgn⟩
    · rw [appK_end hg1 hs (by rw [h4, Nat.add_mul]) hy (by omega) hb, h5, ← fl]; rfl
    · simp only [fpOf, List.mem_singleton] at hne
      rw [get_alloc_lt (by simp; omega), get_put_ne hne, get_alloc_lt hq]
  · have hol := Mem.get_lt hg
    have hg1 := get_alloc_of (x := ⟨enc y, .fixed⟩) hg
    have hx0 : xs = [] := h.sl.zero
    subst hx0
    have hn : ((M.alloc ⟨enc y, .fixed⟩).put o ⟨[], .dead⟩).n = M.n + 1 := rfl
    have fl2 : ([] ++ [y]).flatMap enc = enc y := by simp
    have hgn := get_alloc_self ((M.alloc ⟨enc y, .fixed⟩).put o ⟨[], .dead⟩) ⟨([] ++ [y]).flatMap enc, .grow s⟩
    rw [hn] at hgn
    refine ⟨((M.alloc ⟨enc y, .fixed⟩).put o ⟨[], .dead⟩).alloc ⟨([] ++ [y]).flatMap enc, .grow s⟩, fun K => ?_, key _ rfl hgn, rfl, ⟨by simp; omega, fun q hq hne => ?_⟩, hgn⟩
    · rw [appK_fin hg1 (by omega) h4 hy (by omega) (by omega), fl2]; rfl
    · simp only [fpOf, List.mem_singleton] at hne
      rw [get_alloc_lt (by simp; omega), get_put_ne hne, get_alloc_lt hq]
theorem Tail.rest {x : α} {kl : IntKind} (h : Tail M s enc a l c (x :: xs)) (he : Enc s enc) (hs : 0 < s) :
    ∃ a2 c2, (∀ {β : Type} (K : Option (Nat × Nat) → Nat → Cap → Option β), slcK false s a l c M (some (.int kl ((1 : Nat) : Int))) none none K = K a2 (l - 1) c2) ∧ Tail M s enc a2 (l - 1) c2 xs ∧ (∀ o ∈ fpOf a2, o ∈ fpOf a) := by
  have hlen := h.length
  rw [List.length_cons] at hlen
  rcases h.form with rfl | ⟨o, f, cs, rfl, rfl, hg, h4, h5⟩ | ⟨h0, _⟩
  · have hrow : Row M s enc a l (.known l) (x :: xs) := ⟨h.sl, .inl rfl⟩
    have hs1 := fun {β : Type} (K : Option (Nat × Nat) → Nat → Cap → Option β) => slcK_known_from (M := M) (s := s) (a := a) (len := l) (n := l) (l := 1) (kl := kl) (K := K) (by omega) (Nat.le_refl _)
    obtain ⟨a2, c2, h1, h2, h3⟩ := hrow.tail (i := 1) (kl := kl) he (by omega)
    have e1 : a2 = (cond (Nat.beq l 1) a (adv a (1 * s))) ∧ c2 = .known (l - 1) := by
      have q1 := h1 (β := Option (Nat × Nat) × Nat × Cap) (fun a b c => some (a, b, c))
      rw [hs1] at q1
      simp only [Option.some.injEq, Prod.mk.injEq] at q1
      exact ⟨q1.1.symm, q1.2.2.symm⟩
    refine ⟨a2, c2, h1, ⟨by simpa using h2, .inl (by rw [e1.2])⟩, h3⟩
  · have hsk := fun {β : Type} (K : Option (Nat × Nat) → Nat → Cap → Option β) => slcK_unk_from (M := M) (s := s) (K := K) (len := l) (l := 1) (f := f) (kl := kl) hg (.inl rfl) (by rw [h4, Nat.add_mul]; exact Nat.le_refl _) (by omega)
    have hdrop : cs.drop ((f + 1) * s) = xs.flatMap enc := by
      rw [Nat.add_mul, Nat.one_mul, ← List.drop_drop, h5, List.flatMap_cons, List.drop_append, List.drop_eq_nil_of_le (by rw [he]; exact Nat.le_refl _), he, Nat.sub_self, List.drop_zero, List.nil_append]
    by_cases h1 : l = 1
    · have hz : (Nat.beq 1 l && Nat.blt 0 1) = true := by subst h1; rfl
      have hx0 : xs = [] := List.length_eq_zero_iff.1 (by omega)
      subst hx0 h1
      exact ⟨some (o, f * s), .fin (f + 1) (1 * s), fun K => by rw [hsk, hz, cond_true], ⟨Sl.nil _ _ _ _ _, .inr (.inr ⟨rfl, o, f * s, f + 1, 1 * s, cs, rfl, rfl, hg, by rw [Nat.add_mul], by rw [h4]⟩)⟩, fun q hq => hq⟩
    · have hz : (Nat.beq 1 l && Nat.blt 0 1) = false := by rw [beq_false (by omega)]; rfl
      have e : f * s + 1 * s = (f + 1) * s := by rw [Nat.add_mul]
      refine ⟨some (o, (f + 1) * s), .unk (f + 1), fun K => by rw [hsk, hz, cond_false, e], ⟨?_, .inr (.inl ⟨o, f + 1, cs, rfl, rfl, hg, by rw [h4]; congr 1; omega, hdrop⟩)⟩, fun q hq => hq⟩
      refine Sl.of hg (by simp) rfl (by rw [h4, ← Nat.add_mul]; exact Nat.mul_le_mul_right _ (by omega)) ?_ (by omega)
      rw [hdrop, List.take_of_length_le]
      rw [flatMap_length he]
      exact Nat.mul_le_mul_right _ (by omega)
  · omega
end
end Go.Abs
