/- ShareApart: the book. -/
import Derived.Test.YtfdlmneofbcpnaaSC
set_option linter.unusedVariables false
set_option linter.unusedSimpArgs false
set_option linter.unnecessarySimpa false
set_option maxRecDepth 100000
namespace Go.Proofs.Ytfdlmneofbcpnaa.M
open Go.Abs

/-- A slice of the book: bytes, at the front of an object that may be written. -/
structure BkS (M : Mem) (v : SlV) (xs : List Int) : Prop where
  len : xs.length = v.2.1
  ex : 0 < v.2.1 → ∃ (o : Nat) (cs : List Int) (k : OKind), v.1 = some (o, 0) ∧ M.get o = some ⟨cs.map (.int .u8), k⟩ ∧ v.2.1 ≤ cs.length ∧ cs.take v.2.1 = xs ∧ ((v.2.2 = .unk 0 ∧ k = .grow 1) ∨ ∃ m, v.2.2 = .known m ∧ v.2.1 ≤ m ∧ k = .fixed)
section
variable {M M' : Mem} {v : SlV} {xs : List Int}
theorem fpS_of {o : Nat} (h : v.1 = some (o, 0)) (h0 : 0 < v.2.1) : fpS v = [o] := by unfold fpS; rw [if_neg (by omega), h]; rfl
theorem BkS.same (h : BkS M v xs) (hg : ∀ o ∈ fpS v, M'.get o = M.get o) : BkS M' v xs := by
  refine ⟨h.len, fun h0 => ?_⟩
  obtain ⟨o, cs, k, e1, e2, e3⟩ := h.ex h0
  exact ⟨o, cs, k, e1, (hg o (by rw [fpS_of e1 h0]; simp)).trans e2, e3⟩
theorem BkS.bytes (h : BkS M v xs) : M.bytesAt v = some xs := by
  by_cases h0 : v.2.1 = 0
  · unfold Mem.bytesAt
    rw [h0, ints_zero]
    have := h.len
    rw [List.length_eq_zero_iff.1 (show xs.length = 0 by omega)]
  · obtain ⟨o, cs, k, e1, e2, e3, e4, e5⟩ := h.ex (by omega)
    unfold Mem.bytesAt
    rw [e1]
    refine ints_of e2 (by rcases e5 with ⟨_, rfl⟩ | ⟨m, _, _, rfl⟩ <;> simp) (by rcases e5 with ⟨e, _⟩ | ⟨m, e, _⟩ <;> rw [e] <;> rfl) (by simpa using e3) (by rw [List.drop_zero, ← List.map_take, e4])
theorem BkS.lt (h : BkS M v xs) : ∀ o ∈ fpS v, o < M.n := bytesAt_lt h.bytes
theorem BkS.own (h : Own1 M v xs) : BkS M v xs := ⟨h.1, fun h0 => by
  obtain ⟨o, e1, e2, g⟩ := h.2 h0
  exact ⟨o, xs, _, e1, g, by rw [h.1]; exact Nat.le_refl _, List.take_of_length_le (by rw [h.1]; exact Nat.le_refl _), .inl ⟨e2, rfl⟩⟩⟩
theorem BkS.cut {n : Nat} {kk : IntKind} (h : BkS M v xs) (h0 : 0 < v.2.1) (hn : n ≤ v.2.1) :
    (∀ {β : Type} (K : Option (Nat × Nat) → Nat → Cap → Option β), slcK false 1 v.1 v.2.1 v.2.2 M none (some (.int kk (n : Int))) none K = K v.1 n v.2.2) ∧ BkS M (v.1, n, v.2.2) (xs.take n) ∧ (∀ o ∈ fpS (v.1, n, v.2.2), o ∈ fpS v) := by
  obtain ⟨o, cs, k, e1, e2, e3, e4, e5⟩ := h.ex h0
  have hl := h.len
  refine ⟨fun K => ?_, ⟨by simp; omega, fun _ => ⟨o, cs, k, e1, e2, Nat.le_trans hn e3, by rw [← e4, List.take_take, Nat.min_eq_left hn], ?_⟩⟩, fun q hq => ?_⟩
  · rw [e1]
    rcases e5 with ⟨e, rfl⟩ | ⟨m, e, hm, rfl⟩
    · rw [e]; exact slcK_own_to e2 (.inl rfl) (by simp; omega)
    · rw [e, slcK_known_to (Nat.le_trans hn hm)]
      cases Nat.beq m 0 <;> rfl
  · rcases e5 with ⟨e, rfl⟩ | ⟨m, e, hm, rfl⟩
    · exact .inl ⟨e, rfl⟩
    · exact .inr ⟨m, e, Nat.le_trans hn hm, rfl⟩
  · rw [fpS_of e1 h0]
    unfold fpS at hq
    split at hq
    · simp at hq
    · simpa [e1, fpOf] using hq
theorem BkS.put {i : Nat} {y : Int} (h : BkS M v xs) (hi : i < v.2.1) : ∃ o M', slPtr v.1 v.2.2 = some (o, 0) ∧ M.st o i [.int .u8 y] = some M' ∧ BkS M' v (xs.set i y) ∧ M'.n = M.n ∧ Mem.But (· = o) M M' ∧ o ∈ fpS v := by
  obtain ⟨o, cs, k, e1, e2, e3, e4, e5⟩ := h.ex (by omega)
  have hl := h.len
  have hm : k.mine = true := by rcases e5 with ⟨_, rfl⟩ | ⟨m, _, _, rfl⟩ <;> rfl
  have s1 := st_mine (i := i) (vs := [.int .u8 y]) e2 hm (by simp; omega)
  rw [overL_one, ← List.map_set] at s1
  refine ⟨o, _, ?_, s1, ⟨by rw [List.length_set]; exact hl, fun _ => ⟨o, cs.set i y, k, e1, get_put_self (Mem.get_lt e2), by rw [List.length_set]; exact e3, ?_, e5⟩⟩, rfl, Mem.But.put _ _ _, by rw [fpS_of e1 (by omega)]; simp⟩
  · rw [e1]; rcases e5 with ⟨e, _⟩ | ⟨m, e, _⟩ <;> rw [e] <;> rfl
  · rw [List.take_set, e4]
theorem BkS.front (h : BkS M v xs) (hl : v.2.1 ≤ 2 ^ 40) : ∃ a2 c2 M', (∀ {β : Type} (K : Option (Nat × Nat) → Nat → Cap → Mem → Option β), appK false 1 1 (M.alloc ⟨[.int .u8 0], .fixed⟩) (some (M.n, 0)) 1 (.known 1) (.sl v.1 v.2.1 v.2.2) K = K a2 (v.2.1 + 1) c2 M') ∧ BkS M' (a2, v.2.1 + 1, c2) (0 :: xs) ∧ M.Upto M' ∧ (∀ o ∈ fpS (a2, v.2.1 + 1, c2), M.n ≤ o ∧ o < M'.n) := by
  have hxl := h.len
  have u1 := Mem.Upto.alloc M ⟨[.int .u8 0], .fixed⟩
  have g1 := get_alloc_self M ⟨[.int .u8 0], .fixed⟩
  by_cases h0 : v.2.1 = 0
  · have hx0 : xs = [] := List.length_eq_zero_iff.1 (by omega)
    subst hx0
    rw [h0]
    refine ⟨some (M.n, 0), .known 1, _, fun K => appK_none (Nat.le_refl 1), ⟨rfl, fun _ => ⟨M.n, [0], .fixed, rfl, g1, Nat.le_refl _, rfl, .inr ⟨1, rfl, Nat.le_refl _, rfl⟩⟩⟩, u1, fun o ho => ?_⟩
    rw [fpS_of (o := M.n) rfl (by simp)] at ho
    simp only [List.mem_singleton] at ho
    subst ho
    simp
  · have hy : (M.alloc ⟨[.int .u8 0], .fixed⟩).ints .u8 v.1 v.2.1 v.2.2 = some xs := ints_upto h.bytes u1
    have hx : (M.alloc ⟨[.int .u8 0], .fixed⟩).raws 1 (some (M.n, 0)) 1 (.known 1) = some [.int .u8 0] := by
      have := ints_whole (xs := [0]) (k := .u8) (c := .known 1) g1 (by simp) rfl
      exact ints_raws.1 this
    have hn : (M.alloc ⟨[.int .u8 0], .fixed⟩).n = M.n + 1 := rfl
    have e1 : 1 + v.2.1 = v.2.1 + 1 := by omega
    have g2 := get_alloc_self (M.alloc ⟨[.int .u8 0], .fixed⟩) ⟨[.int .u8 0] ++ xs.map (.int .u8), .grow 1⟩
    refine ⟨some (M.n + 1, 0), .unk 0, _, fun K => (appK_more hx (ints_raws.1 hy) (by omega) (by omega)).trans (by rw [e1]; rfl), ⟨by simp; omega, fun _ => ⟨M.n + 1, 0 :: xs, _, rfl, g2, by simp; omega, List.take_of_length_le (by simp; omega), .inl ⟨rfl, rfl⟩⟩⟩, u1.alloc_r _, fun o ho => ?_⟩
    rw [fpS_of (o := M.n + 1) rfl (by simp)] at ho
    simp only [List.mem_singleton] at ho
    subst ho
    simp
end
/-- What the handles' packets and the book have to do with each other. -/
def Rel (cur : List (Option Nat)) (gs : List Grp) (bk : List (List Int)) : Prop := ∀ (j g : Nat) (x : Grp) (xs : List Int), cur[j]? = some (some g) → gs[g]? = some x → bk[j]? = some xs → x.B = xs
def Solo (cur : List (Option Nat)) (k g : Nat) : Prop := ∀ j, j ≠ k → cur[j]? ≠ some (some g)
theorem count_two {cur : List (Option Nat)} {j k : Nat} {y : Option Nat} (hne : j ≠ k) (hj : cur[j]? = some y) (hk : cur[k]? = some y) (hy : y ≠ none) : 1 < cur.count y := by
  obtain ⟨hkl, hke⟩ := List.getElem?_eq_some_iff.1 hk
  have h1 := List.count_set (a := none) (b := y) hkl
  rw [hke] at h1
  have h2 : 0 < (cur.set k none).count y := List.count_pos_iff.2 (List.mem_of_getElem? (i := j) (by rw [List.getElem?_set, if_neg (fun e => hne e.symm)]; exact hj))
  have h3 : (none == y) = false := by cases y with
    | none => exact absurd rfl hy
    | some z => rfl
  simp only [beq_self_eq_true, if_true, h3, Bool.false_eq_true, if_false, Nat.add_zero] at h1
  omega
theorem Rel.own {cur cur' : List (Option Nat)} {gs gs' : List Grp} {bk : List (List Int)} {k g g' : Nat} {x x' : Grp} (h : Rel cur gs bk) (hk : cur[k]? = some (some g)) (hx : gs[g]? = some x) (hin : ∀ (j g : Nat), cur[j]? = some (some g) → g < gs.length) (ow : Owned cur gs k g x cur' gs' g' x') : Rel cur' gs' bk ∧ Solo cur' k g' := by
  have hkl := (List.getElem?_eq_some_iff.1 hk).1
  rcases ow with ⟨o1, rfl, rfl, rfl, o5⟩ | ⟨o1, rfl, rfl, rfl, rfl⟩
  · refine ⟨fun j g2 y xs h1 h2 h3 => ?_, fun j hj h1 => ?_⟩
    · by_cases e : k = j
      · subst e
        rw [List.getElem?_set, if_pos rfl, if_pos hkl] at h1
        cases h1
        rw [List.getElem?_append_right (Nat.le_refl _), Nat.sub_self] at h2
        cases h2
        rw [o5]
        exact h k g x xs hk hx h3
      · rw [List.getElem?_set, if_neg e] at h1
        rw [List.getElem?_append_left (hin j g2 h1)] at h2
        exact h j g2 y xs h1 h2 h3
    · rw [List.getElem?_set, if_neg (fun e => hj e.symm)] at h1
      have := hin j _ h1; omega
  · exact ⟨h, fun j hj h1 => o1 (count_two hj h1 hk nofun)⟩
theorem Rel.set {cur : List (Option Nat)} {gs : List Grp} {bk : List (List Int)} {k g : Nat} {y : Grp} (h : Rel cur gs bk) (hk : cur[k]? = some (some g)) (hs : Solo cur k g) (hkl : k < bk.length) (hgl : g < gs.length) : Rel cur (gs.set g y) (bk.set k y.B) := by
  intro j g2 z xs h1 h2 h3
  by_cases e : k = j
  · subst e
    rw [hk] at h1
    cases h1
    rw [List.getElem?_set, if_pos rfl, if_pos hgl] at h2
    cases h2
    rw [List.getElem?_set, if_pos rfl, if_pos hkl] at h3
    cases h3; rfl
  · rw [List.getElem?_set, if_neg e] at h3
    have : g ≠ g2 := fun e2 => hs j (fun e3 => e e3.symm) (by rw [e2]; exact h1)
    rw [List.getElem?_set, if_neg this] at h2
    exact h j g2 z xs h1 h2 h3
inductive R2 where
  | ptrs
  | book
  | sl (j : Nat)
  | none
/-- Handles, the slice of them, and the book. -/
structure AP (M0 M : Mem) (role : Nat → Rl) (r2 : Nat → R2) (hs : List Nat) (cur : List (Option Nat)) (gs : List Grp) (N : Nat) (a b : SlV) (vs : List SlV) (bk : List (List Int)) : Prop where
  H : SS M0 M role hs cur gs N
  all : ∀ j, j < cur.length → ∃ g, cur[j]? = some (some g)
  pr : PR M0 M role a.1 a.2.1 a.2.2 hs
  pr2 : ∀ o ∈ fpOf a.1, r2 o = .ptrs
  row : Row M 1 encS b.1 b.2.1 b.2.2 vs
  rmi : ∃ o cs kd, b.1 = some (o, 0) ∧ M.get o = some ⟨cs, kd⟩ ∧ kd.mine = true
  rfr : ∀ o ∈ fpOf b.1, M0.n ≤ o ∧ o < M.n ∧ role o = .other ∧ r2 o = .book
  len : vs.length = bk.length ∧ bk.length = hs.length
  own : ∀ j v xs, vs[j]? = some v → bk[j]? = some xs → BkS M v xs ∧ ∀ o ∈ fpS v, M0.n ≤ o ∧ o < M.n ∧ role o = .other ∧ r2 o = .sl j
section
variable {M0 M M' : Mem} {role role' : Nat → Rl} {r2 : Nat → R2} {hs : List Nat} {cur cur' : List (Option Nat)} {gs gs' : List Grp} {N N' k : Nat} {a b v v' : SlV} {vs : List SlV} {bk : List (List Int)} {xs xs' : List Int}
/-- The handles alone have been at work. -/
theorem AP.fre (h : AP M0 M role r2 hs cur gs N a b vs bk) (hf : Fr role role' M M') (H' : SS M0 M' role' hs cur' gs' N') (hall : ∀ j, j < cur'.length → ∃ g, cur'[j]? = some (some g)) : AP M0 M' role' r2 hs cur' gs' N' a b vs bk := by
  refine ⟨H', hall, h.pr.fre hf, h.pr2, h.row.same (fun o ho => hf.get o (h.rfr o ho).2.1 (h.rfr o ho).2.2.1), ?_, fun o ho => ?_, h.len, fun j v xs h1 h2 => ?_⟩
  · obtain ⟨o, cs, kd, e1, e2, e3⟩ := h.rmi
    have := h.rfr o (by rw [e1]; simp [fpOf])
    exact ⟨o, cs, kd, e1, (hf.get o this.2.1 this.2.2.1).trans e2, e3⟩
  · obtain ⟨f1, f2, f3, f4⟩ := h.rfr o ho
    exact ⟨f1, by have := hf.n; omega, (hf.rl o f2).trans f3, f4⟩
  · obtain ⟨o1, o2⟩ := h.own j v xs h1 h2
    refine ⟨o1.same (fun o ho => hf.get o (o2 o ho).2.1 (o2 o ho).2.2.1), fun o ho => ?_⟩
    obtain ⟨f1, f2, f3, f4⟩ := o2 o ho
    exact ⟨f1, by have := hf.n; omega, (hf.rl o f2).trans f3, f4⟩
theorem AP.upto (h : AP M0 M role r2 hs cur gs N a b vs bk) (hu : M.Upto M') : AP M0 M' role r2 hs cur gs N a b vs bk := h.fre (Fr.upto hu) (h.H.upto hu) h.all
/-- A byte of the book is written. -/
theorem AP.poke {i : Nat} {y : Int} (h : AP M0 M role r2 hs cur gs N a b vs bk) (hv : vs[k]? = some v) (hx : bk[k]? = some xs) (hi : i < v.2.1) :
    ∃ o M', slPtr v.1 v.2.2 = some (o, 0) ∧ M.st o i [.int .u8 y] = some M' ∧ AP M0 M' role r2 hs cur gs N a b vs (bk.set k (xs.set i y)) ∧ M'.n = M.n := by
  obtain ⟨o1, o2⟩ := h.own k v xs hv hx
  obtain ⟨o, M', p1, p2, p3, p4, p5, p6⟩ := o1.put (y := y) hi
  obtain ⟨f1, f2, f3, f4⟩ := o2 o p6
  have hkl : k < bk.length := (List.getElem?_eq_some_iff.1 hx).1
  have hup := h.H.up.1
  have keep : ∀ z, z < M.n → r2 z ≠ .sl k ∨ role z ≠ .other → M'.get z = M.get z := fun z hz hne => p5.2 z hz (fun e => by
    rw [e] at hne
    rcases hne with hne | hne
    · exact hne f4
    · exact hne f3)
  refine ⟨o, M', p1, p2, ⟨h.H.frame ⟨by omega, fun z hz => by rw [p5.2 z (by omega) (by omega), h.H.up.2 z hz]⟩ (fun z hz hne => keep z hz (.inr hne)), h.all, ⟨h.pr.row.same (fun z hz => keep z (h.pr.fr z hz).2.1 (.inl (by rw [h.pr2 z hz]; exact nofun))), fun z hz => by have := h.pr.fr z hz; exact ⟨this.1, by omega, this.2.2⟩⟩, h.pr2, h.row.same (fun z hz => keep z (h.rfr z hz).2.1 (.inl (by rw [(h.rfr z hz).2.2.2]; exact nofun))), ?_, fun z hz => by have := h.rfr z hz; exact ⟨this.1, by omega, this.2.2⟩, by rw [List.length_set]; exact h.len, fun j w ys h1 h2 => ?_⟩, p4⟩
  · obtain ⟨z, cs, kd, e1, e2, e3⟩ := h.rmi
    have := h.rfr z (by rw [e1]; simp [fpOf])
    exact ⟨z, cs, kd, e1, (keep z this.2.1 (.inl (by rw [this.2.2.2]; exact nofun))).trans e2, e3⟩
  · by_cases e : k = j
    · subst e
      rw [hv] at h1; cases h1
      rw [List.getElem?_set, if_pos rfl, if_pos hkl] at h2
      cases h2
      exact ⟨p3, fun z hz => by have := o2 z hz; exact ⟨this.1, by omega, this.2.2⟩⟩
    · rw [List.getElem?_set, if_neg e] at h2
      obtain ⟨q1, q2⟩ := h.own j w ys h1 h2
      exact ⟨q1.same (fun z hz => keep z (q2 z hz).2.1 (.inl (by rw [(q2 z hz).2.2.2]; exact fun e2 => by cases e2; exact e rfl))), fun z hz => by have := q2 z hz; exact ⟨this.1, by omega, this.2.2⟩⟩
/-- A slice of the book is another one now. -/
theorem AP.change (h : AP M0 M role r2 hs cur gs N a b vs bk) (hkl : k < bk.length) (hn : BkS M v' xs') (hf : ∀ o ∈ fpS v', M0.n ≤ o ∧ o < M.n ∧ role o = .other ∧ r2 o = .sl k) :
    ∃ p M', slPtr b.1 b.2.2 = some p ∧ M.st p.1 (p.2 + k) [.sl v'.1 v'.2.1 v'.2.2] = some M' ∧ AP M0 M' role r2 hs cur gs N a b (vs.set k v') (bk.set k xs') ∧ M'.n = M.n := by
  obtain ⟨o, cs, kd, e1, e2, e3⟩ := h.rmi
  have hrow := h.row
  have hl := h.len
  have hrl := hrow.length
  rw [e1] at hrow
  obtain ⟨M', cs', r1, r2', r3, r4, r5, r6, r7⟩ := hrow.set (i := k) (y := v') encS1 (by omega) (by omega) e2 e3
  obtain ⟨f1, f2, f3, f4⟩ := h.rfr o (by rw [e1]; simp [fpOf])
  have hup := h.H.up.1
  have keep : ∀ z, z < M.n → r2 z ≠ .book ∨ role z ≠ .other → M'.get z = M.get z := fun z hz hne => r5.2 z hz (fun e => by
    rw [e] at hne
    rcases hne with hne | hne
    · exact hne f4
    · exact hne f3)
  refine ⟨(o, 0), M', by rw [e1]; exact r1, by simpa [encS] using r2', ⟨h.H.frame ⟨by omega, fun z hz => by rw [r5.2 z (by omega) (by omega), h.H.up.2 z hz]⟩ (fun z hz hne => keep z hz (.inr hne)), h.all, ⟨h.pr.row.same (fun z hz => keep z (h.pr.fr z hz).2.1 (.inl (by rw [h.pr2 z hz]; exact nofun))), fun z hz => by have := h.pr.fr z hz; exact ⟨this.1, by omega, this.2.2⟩⟩, h.pr2, by rw [e1]; exact r3, ⟨o, cs', kd, e1, r6, e3⟩, fun z hz => by have := h.rfr z hz; exact ⟨this.1, by omega, this.2.2⟩, by rw [List.length_set, List.length_set]; exact hl, fun j w ys h1 h2 => ?_⟩, r4⟩
  by_cases e : k = j
  · subst e
    rw [List.getElem?_set, if_pos rfl, if_pos (by omega)] at h1
    rw [List.getElem?_set, if_pos rfl, if_pos hkl] at h2
    cases h1; cases h2
    exact ⟨hn.same (fun z hz => keep z (hf z hz).2.1 (.inl (by rw [(hf z hz).2.2.2]; exact nofun))), fun z hz => by have := hf z hz; exact ⟨this.1, by omega, this.2.2⟩⟩
  · rw [List.getElem?_set, if_neg e] at h1
    rw [List.getElem?_set, if_neg e] at h2
    obtain ⟨q1, q2⟩ := h.own j w ys h1 h2
    exact ⟨q1.same (fun z hz => keep z (q2 z hz).2.1 (.inl (by rw [(q2 z hz).2.2.2]; exact nofun))), fun z hz => by have := q2 z hz; exact ⟨this.1, by omega, this.2.2⟩⟩
/-- Other names for new objects. -/
theorem AP.rerole {r2' : Nat → R2} (h : AP M0 M role r2 hs cur gs N a b vs bk) (h1 : ∀ y, y < M.n → role' y = role y) (h2 : ∀ y, y < M.n → r2' y = r2 y) : AP M0 M role' r2' hs cur gs N a b vs bk :=
  ⟨h.H.rerole h1, h.all, ⟨h.pr.row, fun o ho => by have := h.pr.fr o ho; exact ⟨this.1, this.2.1, (h1 o this.2.1).trans this.2.2⟩⟩, fun o ho => (h2 o (h.pr.fr o ho).2.1).trans (h.pr2 o ho), h.row, h.rmi, fun o ho => by have := h.rfr o ho; exact ⟨this.1, this.2.1, (h1 o this.2.1).trans this.2.2.1, (h2 o this.2.1).trans this.2.2.2⟩, h.len, fun j v xs q1 q2 => by
    obtain ⟨q3, q4⟩ := h.own j v xs q1 q2
    exact ⟨q3, fun o ho => by have := q4 o ho; exact ⟨this.1, this.2.1, (h1 o this.2.1).trans this.2.2.1, (h2 o this.2.1).trans this.2.2.2⟩⟩⟩
end
end Go.Proofs.Ytfdlmneofbcpnaa.M
