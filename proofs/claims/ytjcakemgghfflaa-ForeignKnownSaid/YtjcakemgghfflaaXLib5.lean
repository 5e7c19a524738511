import Derived.Test.YtjcakemgghfflaaXLib4
set_option linter.unusedVariables false
set_option linter.unusedSimpArgs false
set_option linter.unnecessarySimpa false
namespace Go.Abs
theorem overL_mid : ∀ (xs : List AVal) {ys vs zs : List AVal}, vs.length = ys.length → overL (xs ++ (ys ++ zs)) xs.length vs = xs ++ (vs ++ zs)
  | [], [], [], zs, _ => by simp [overL_nil]
  | [], y :: ys, v :: vs, zs, h => by
    have := overL_mid [] (ys := ys) (vs := vs) (zs := zs) (by simpa using h)
    simpa [overL] using this
  | x :: xs, ys, [], zs, h => by
    have : ys = [] := List.length_eq_zero_iff.1 h.symm
    subst this; simp [overL_nil]
  | x :: xs, ys, v :: vs, zs, h => by
    have := overL_mid xs (ys := ys) (vs := v :: vs) (zs := zs) h
    simpa [overL] using this
theorem replZ_one (v : AVal) : ∀ n, replZ [v] n = List.replicate n v
  | 0 => rfl
  | n + 1 => by simp [replZ, List.replicate_succ, replZ_one v n]
theorem replZ_int (k : IntKind) (z : Int) (n : Nat) : replZ [.int k z] n = (List.replicate n z).map (.int k) := by rw [replZ_one, List.map_replicate]
section
variable {β : Type} {M : Mem} {o len l' : Nat} {k : OKind} {kk : IntKind} {a a' : Option (Nat × Nat)} {c c' : Cap} {pre mid post ys : List Int}
theorem part_put (hg : M.get o = some ⟨(pre ++ (mid ++ post)).map (.int kk), k⟩) (hm : k.mine = true) (hy : ys.length = mid.length) :
    M.st o pre.length (ys.map (.int kk)) = some (M.put o ⟨(pre ++ (ys ++ post)).map (.int kk), k⟩) := by
  have h := st_mine (i := pre.length) (vs := ys.map (.int kk)) hg hm (by simp; omega)
  rw [List.map_append, List.map_append] at h
  have h2 := overL_mid (pre.map (AVal.int kk)) (ys := mid.map (.int kk)) (vs := ys.map (.int kk)) (zs := post.map (.int kk)) (by simpa using hy)
  rw [List.length_map] at h2
  rw [h2] at h
  rw [h, List.map_append, List.map_append]
theorem copyK_part (hg : M.get o = some ⟨(pre ++ (mid ++ post)).map (.int kk), k⟩) (hm : k.mine = true) (hy : M.ints kk a' l' c' = some ys) (hlen : mid.length = l') (hi : 0 < l' → slPtr a c = some (o, pre.length)) (hle : l' ≤ len) :
    ∃ M', (∀ {β : Type} (K : Nat → Mem → Option β), copyK false 1 M a len c (.sl a' l' c') K = K l' M') ∧ M'.get o = some ⟨(pre ++ (ys ++ post)).map (.int kk), k⟩ ∧ M'.n = M.n ∧ Mem.But (· = o) M M' := by
  have hyl := ints_length hy
  have hmin : Nat.min l' len = l' := Nat.min_eq_left hle
  by_cases h0 : l' = 0
  · subst h0
    have e1 : mid = [] := List.length_eq_zero_iff.1 hlen
    have e2 : ys = [] := List.length_eq_zero_iff.1 hyl
    subst e1 e2
    refine ⟨M, fun K => ?_, hg, rfl, Mem.But.refl _ _⟩
    unfold copyK
    simp [lenOf]
  · have hp := part_put (ys := ys) hg hm (by omega)
    have hol := Mem.get_lt hg
    refine ⟨_, fun K => ?_, get_put_self hol, rfl, Mem.But.put _ _ _⟩
    unfold copyK
    simp only [lenOf, fN_eq, hmin, beq_false h0, cond_false]
    rw [firstOf_ints hy, hi (by omega), Option.bind_some, hp, Option.bind_some]
theorem ints_mid (hg : M.get o = some ⟨(pre ++ (mid ++ post)).map (.int kk), k⟩) (hk : k.Lives) (hp : 0 < mid.length → slPtr a c = some (o, pre.length)) : M.ints kk a mid.length c = some mid := by
  by_cases h0 : mid.length = 0
  · have e1 : mid = [] := List.length_eq_zero_iff.1 h0
    subst e1; rfl
  · have h1 := hp (by omega)
    have h2 := (slPtr_some h1).1
    subst h2
    have := ints_part (i := pre.length) (l := mid.length) hg hk h1 (by simp)
    rw [this]; simp
end
end Go.Abs
