/- table.Of, and the document's. -/
import Derived.Test.YtlglggcheffoeaaTO
set_option linter.unusedVariables false
set_option linter.unusedSimpArgs false
set_option linter.unnecessarySimpa false
set_option maxRecDepth 100000
namespace Go.Proofs.Ytlglggcheffoeaa.M
open Go.Abs Go.RowKit

abbrev Up (T : List Pr) : Prop := T.Pairwise (fun x y => x.1 < y.1)
theorem Up.app {A B : List Pr} : Up (A ++ B) ↔ Up A ∧ Up B ∧ ∀ x ∈ A, ∀ y ∈ B, x.1 < y.1 := List.pairwise_append
theorem Up.inc {T : List Pr} (h : Up T) : Inc T := fun i hi => List.pairwise_iff_getElem.1 h i (i + 1) (by omega) hi (by omega)
theorem Inc.up {T : List Pr} (h : Inc T) : Up T := List.pairwise_iff_getElem.2 (fun i j hi hj hij => h.lt' hij hj)
theorem up_ext : ∀ (T T' : List Pr), Up T → Up T' → (∀ p, p ∈ T ↔ p ∈ T') → T = T'
  | [], T', _, _, h => by
    cases T' with
    | nil => rfl
    | cons y T' => exact absurd ((h y).2 (by simp)) (by simp)
  | x :: T, [], _, _, h => absurd ((h x).1 (by simp)) (by simp)
  | x :: T, y :: T', h1, h2, h => by
    obtain ⟨a1, a2⟩ := List.pairwise_cons.1 h1
    obtain ⟨b1, b2⟩ := List.pairwise_cons.1 h2
    have e : x = y := by
      rcases List.mem_cons.1 ((h x).1 (by simp)) with e | hx
      · exact e
      · rcases List.mem_cons.1 ((h y).2 (by simp)) with e | hy
        · exact e.symm
        · have := b1 x hx; have := a1 y hy; omega
    subst e
    rw [up_ext T T' a2 b2 (fun p => ⟨fun hp => ?_, fun hp => ?_⟩)]
    · rcases List.mem_cons.1 ((h p).1 (by simp [hp])) with rfl | hq
      · have := a1 p hp; omega
      · exact hq
    · rcases List.mem_cons.1 ((h p).2 (by simp [hp])) with rfl | hq
      · have := b1 p hp; omega
      · exact hq
def lastv (S : List Pr) (k : Int) : Option Int := ((S.filter (fun p => p.1 == k)).getLast?).map (·.2)
theorem lastv_st {S S' : List Pr} (h : St S S') (k : Int) : lastv S k = lastv S' k := by unfold lastv; rw [h k]
theorem lastv_snoc (S : List Pr) (p : Pr) (k : Int) : lastv (S ++ [p]) k = if p.1 = k then some p.2 else lastv S k := by
  unfold lastv
  rw [List.filter_append]
  by_cases h : p.1 = k
  · rw [if_pos h]; simp [h]
  · rw [if_neg h]; simp [h]
theorem lastv_mem {S : List Pr} {k v : Int} (h : lastv S k = some v) : (k, v) ∈ S := by
  unfold lastv at h
  obtain ⟨q, h1, h2⟩ := Option.map_eq_some_iff.1 h
  have := List.mem_of_getLast? h1
  obtain ⟨m1, m2⟩ := List.mem_filter.1 this
  have m2 : q.1 = k := by simpa using m2
  obtain ⟨a, b⟩ := q
  simp only at h2 m2
  rw [← h2, ← m2]; exact m1
theorem lastv_none {S : List Pr} {k : Int} (h : lastv S k = none) : ∀ p ∈ S, p.1 ≠ k := by
  unfold lastv at h
  have := Option.map_eq_none_iff.1 h
  have := List.getLast?_eq_none_iff.1 this
  intro p hp e
  have := List.filter_eq_nil_iff.1 this p hp
  simp [e] at this
structure Tab (S T : List Pr) : Prop where
  up : Up T
  mem : ∀ k v, (k, v) ∈ T ↔ lastv S k = some v
theorem Tab.uniq {S T T' : List Pr} (h : Tab S T) (h' : Tab S T') : T = T' := up_ext T T' h.up h'.up (fun p => by
  obtain ⟨k, v⟩ := p
  rw [h.mem, h'.mem])
theorem Tab.st {S S' T : List Pr} (h : Tab S T) (hs : St S S') : Tab S' T := ⟨h.up, fun k v => by rw [h.mem, lastv_st hs]⟩
theorem Tab.nil : Tab [] [] := ⟨List.Pairwise.nil, fun k v => by simp [lastv]⟩
theorem Up.self {T : List Pr} (h : Up T) : Tab T T := ⟨h, fun k v => ⟨fun hm => by
  cases hl : lastv T k with
  | none => exact absurd rfl (lastv_none hl _ hm)
  | some w => rw [h.inc.uniq hm (lastv_mem hl)], fun hl => lastv_mem hl⟩⟩
theorem Tab.empty {S : List Pr} (h : Tab S []) : S = [] := by
  cases S with
  | nil => rfl
  | cons x S =>
    cases hl : lastv (x :: S) x.1 with
    | none => exact absurd rfl (lastv_none hl x (by simp))
    | some w => exact absurd ((h.mem x.1 w).2 hl) (by simp)
/-- The last key again. -/
theorem Tab.over {S T0 : List Pr} {q p : Pr} (h : Tab S (T0 ++ [q])) (he : q.1 = p.1) : Tab (S ++ [p]) (T0 ++ [p]) := by
  obtain ⟨u1, _, u3⟩ := Up.app.1 h.up
  refine ⟨Up.app.2 ⟨u1, List.pairwise_singleton _ _, fun x hx y hy => ?_⟩, fun k v => ?_⟩
  · obtain rfl : y = p := by simpa using hy
    rw [← he]; exact u3 x hx q (by simp)
  · rw [lastv_snoc]
    by_cases hk : p.1 = k
    · subst hk
      rw [if_pos rfl]
      constructor
      · intro hm
        rcases List.mem_append.1 hm with hm | hm
        · have := u3 _ hm q (by simp); simp only at this; omega
        · have : (p.1, v) = p := by simpa using hm
          rw [← this]
      · intro hv
        have : v = p.2 := (Option.some.inj hv).symm
        subst this; simp
    · rw [if_neg hk, ← h.mem]
      constructor
      · intro hm
        rcases List.mem_append.1 hm with hm | hm
        · simp [hm]
        · have : (k, v) = p := by simpa using hm
          exact absurd (by rw [← this]) hk
      · intro hm
        rcases List.mem_append.1 hm with hm | hm
        · simp [hm]
        · have : (k, v) = q := by simpa using hm
          exact absurd (by rw [← he, ← this]) hk
/-- A greater key. -/
theorem Tab.more {S T : List Pr} {p : Pr} (h : Tab S T) (hg : ∀ x ∈ T, x.1 < p.1) : Tab (S ++ [p]) (T ++ [p]) := by
  refine ⟨Up.app.2 ⟨h.up, List.pairwise_singleton _ _, fun x hx y hy => ?_⟩, fun k v => ?_⟩
  · obtain rfl : y = p := by simpa using hy
    exact hg x hx
  · rw [lastv_snoc]
    by_cases hk : p.1 = k
    · subst hk
      rw [if_pos rfl]
      constructor
      · intro hm
        rcases List.mem_append.1 hm with hm | hm
        · have := hg _ hm; simp only at this; omega
        · have : (p.1, v) = p := by simpa using hm
          rw [← this]
      · intro hv
        have : v = p.2 := (Option.some.inj hv).symm
        subst this; simp
    · rw [if_neg hk, ← h.mem]
      constructor
      · intro hm
        rcases List.mem_append.1 hm with hm | hm
        · exact hm
        · have : (k, v) = p := by simpa using hm
          exact absurd (by rw [← this]) hk
      · intro hm; simp [hm]
/-! The document puts each pair into its place. -/
def ins (p : Pr) : List Pr → Bool → List Pr
  | [], put => if put then [] else [p]
  | x :: O, put => (if put = false ∧ p.1 ≤ x.1 then [p] else []) ++ ((if x.1 ≠ p.1 then [x] else []) ++ ins p O (put || decide (p.1 ≤ x.1)))
theorem ins_true (p : Pr) : ∀ O : List Pr, ins p O true = O.filter (fun x => decide (x.1 ≠ p.1))
  | [] => rfl
  | x :: O => by
    simp only [ins, Bool.true_or, ins_true p O]
    by_cases h : x.1 = p.1
    · simp [h]
    · simp [h]
theorem filter_all {p : Pr} {O : List Pr} (h : ∀ x ∈ O, x.1 ≠ p.1) : O.filter (fun x => decide (x.1 ≠ p.1)) = O := List.filter_eq_self.2 (fun x hx => by simpa using h x hx)
theorem ins_mem {p : Pr} : ∀ (O : List Pr), Up O → Up (ins p O false) ∧ (∀ q, q ∈ ins p O false ↔ q = p ∨ (q ∈ O ∧ q.1 ≠ p.1))
  | [], _ => ⟨by simp [ins], fun q => by simp [ins]⟩
  | x :: O, h => by
    obtain ⟨h1, h2⟩ := List.pairwise_cons.1 h
    by_cases hlt : x.1 < p.1
    · have e : ins p (x :: O) false = x :: ins p O false := by
        simp only [ins]
        rw [if_neg (by omega), if_pos (by omega), decide_eq_false (by omega)]; rfl
      obtain ⟨i1, i2⟩ := ins_mem O h2
      rw [e]
      refine ⟨List.pairwise_cons.2 ⟨fun y hy => ?_, i1⟩, fun q => ?_⟩
      · rcases (i2 y).1 hy with rfl | ⟨hy, _⟩
        · exact hlt
        · exact h1 y hy
      · rw [List.mem_cons, i2, List.mem_cons]
        constructor
        · rintro (rfl | rfl | ⟨hq, hn⟩)
          · exact .inr ⟨.inl rfl, by omega⟩
          · exact .inl rfl
          · exact .inr ⟨.inr hq, hn⟩
        · rintro (rfl | ⟨rfl | hq, hn⟩)
          · exact .inr (.inl rfl)
          · exact .inl rfl
          · exact .inr (.inr ⟨hq, hn⟩)
    · have hO : ∀ y ∈ O, y.1 ≠ p.1 := fun y hy => by have := h1 y hy; omega
      by_cases he : x.1 = p.1
      · have e : ins p (x :: O) false = p :: O := by
          simp only [ins]
          rw [if_pos ⟨trivial, by omega⟩, if_neg (by omega), decide_eq_true (by omega), Bool.or_true, ins_true, filter_all hO]; rfl
        rw [e]
        refine ⟨List.pairwise_cons.2 ⟨fun y hy => by have := h1 y hy; omega, h2⟩, fun q => ?_⟩
        rw [List.mem_cons, List.mem_cons]
        constructor
        · rintro (rfl | hq)
          · exact .inl rfl
          · exact .inr ⟨.inr hq, hO q hq⟩
        · rintro (rfl | ⟨rfl | hq, hn⟩)
          · exact .inl rfl
          · exact absurd he hn
          · exact .inr hq
      · have e : ins p (x :: O) false = p :: x :: O := by
          simp only [ins]
          rw [if_pos ⟨trivial, by omega⟩, if_pos he, decide_eq_true (by omega), Bool.or_true, ins_true, filter_all hO]; rfl
        rw [e]
        refine ⟨List.pairwise_cons.2 ⟨fun y hy => ?_, h⟩, fun q => ?_⟩
        · rcases List.mem_cons.1 hy with rfl | hy
          · omega
          · have := h1 y hy; omega
        · rw [List.mem_cons]
          constructor
          · rintro (rfl | hq)
            · exact .inl rfl
            · refine .inr ⟨hq, ?_⟩
              rcases List.mem_cons.1 hq with rfl | hq
              · exact he
              · exact hO q hq
          · rintro (rfl | ⟨hq, hn⟩)
            · exact .inl rfl
            · exact .inr hq
theorem ins_tab {S O : List Pr} {p : Pr} (h : Tab S O) : Tab (S ++ [p]) (ins p O false) := by
  obtain ⟨i1, i2⟩ := ins_mem (p := p) O h.up
  refine ⟨i1, fun k v => ?_⟩
  rw [i2, lastv_snoc]
  by_cases hk : p.1 = k
  · subst hk
    rw [if_pos rfl]
    constructor
    · rintro (e | ⟨_, hn⟩)
      · rw [← e]
      · exact absurd rfl hn
    · intro hv
      have : v = p.2 := (Option.some.inj hv).symm
      subst this; exact .inl rfl
  · rw [if_neg hk, ← h.mem]
    constructor
    · rintro (e | ⟨hq, _⟩)
      · exact absurd (by rw [← e]) hk
      · exact hq
    · exact fun hq => .inr ⟨hq, fun e => hk e.symm⟩
/-! Lists of one's own. -/
def OwnT (N0 : Nat) (M : Mem) (v : SlV) (T : List Pr) : Prop := T.length = v.2.1 ∧ (v = (none, 0, .known 0) ∨ ∃ o, v.1 = some (o, 0) ∧ v.2.2 = .unk 0 ∧ Dat o M T ∧ N0 ≤ o)
section
variable {N0 : Nat} {M M' : Mem} {v : SlV} {T : List Pr}
theorem OwnT.nil (N0 : Nat) (M : Mem) : OwnT N0 M (none, 0, .known 0) [] := ⟨rfl, .inl rfl⟩
theorem OwnT.row (h : OwnT N0 M v T) : Row M 2 encP v.1 v.2.1 v.2.2 T := by
  obtain ⟨h1, rfl | ⟨o, e1, e2, e3, _⟩⟩ := h
  · obtain rfl : T = [] := List.length_eq_zero_iff.1 h1
    exact Row.nil _ _ _
  · have := Sl.whole (c := .unk 0) encP2 e3 (by simp) rfl
    rw [h1] at this
    exact ⟨by rw [e1, e2]; exact this, .inr ⟨o, e1, e2, e3⟩⟩
theorem OwnT.keep (h : OwnT N0 M v T) (hk : ∀ y, N0 ≤ y → y < M.n → M'.get y = M.get y) : OwnT N0 M' v T := by
  obtain ⟨h1, e | ⟨o, e1, e2, e3, e4⟩⟩ := h
  · exact ⟨h1, .inl e⟩
  · exact ⟨h1, .inr ⟨o, e1, e2, (hk o e4 (Mem.get_lt e3)).trans e3, e4⟩⟩
theorem OwnT.upto (h : OwnT N0 M v T) (hu : M.Upto M') : OwnT N0 M' v T := h.keep (fun y _ hy => hu.2 y hy)
theorem OwnT.fp (h : OwnT N0 M v T) : ∀ y ∈ fpOf v.1, N0 ≤ y ∧ y < M.n := by
  obtain ⟨_, rfl | ⟨o, e1, _, e3, e4⟩⟩ := h
  · simp [fpOf]
  · intro y hy
    rw [e1] at hy
    obtain rfl : y = o := by simpa [fpOf] using hy
    exact ⟨e4, Mem.get_lt e3⟩
theorem OwnT.push (h : OwnT N0 M v T) (p : Pr) (hl : v.2.1 < 2 ^ 40) (hN : N0 ≤ M.n) : ∃ M', (∀ {β : Type} (K : Option (Nat × Nat) → Nat → Cap → Mem → Option β), appK false 2 16 (M.alloc ⟨[.int .u64 p.1, .int .u64 p.2], .fixed⟩) v.1 v.2.1 v.2.2 (.sl (some (M.n, 0)) 1 (.known 1)) K = K (some (M.n + 1, 0)) (v.2.1 + 1) (.unk 0) M') ∧ OwnT N0 M' (some (M.n + 1, 0), v.2.1 + 1, .unk 0) (T ++ [p]) ∧ M'.n = M.n + 2 ∧ Mem.But (fun y => N0 ≤ y) M M' := by
  obtain ⟨M', q1, q2, q3, q4, q5⟩ := h.row.push (bytes := 16) (y := p) (cs := [.int .u64 p.1, .int .u64 p.2]) encP2 (by omega) rfl (by omega)
  exact ⟨M', q1, ⟨by simp [h.1], .inr ⟨M.n + 1, rfl, rfl, q5, by omega⟩⟩, q3, q4.mono (fun y hy => (h.fp y hy).1)⟩
end
/-- slices.Clone, of pairs. -/
theorem CloneP_C {M : Mem} {a : Option (Nat × Nat)} {l : Nat} {c : Cap} {xs : List Pr} (h : Sl M 2 encP a l c xs) (hl : l ≤ 2 ^ 40) :
    ∃ M' a2 c2, C 17 [.sl a l c] M = some (.sl a2 l c2, M') ∧ M.Upto M' ∧ (0 < l → ∃ o, a2 = some (o, 0) ∧ c2 = .unk 0 ∧ Dat o M' xs ∧ M.n ≤ o) := by
  have hE := p17_0_eq C prog.meth a l c M
  have hxl := h.2
  cases a with
  | none =>
    have h0 : l = 0 := by
      by_cases h0 : 0 < l
      · obtain ⟨p, hp, _⟩ := h.get encP2 (by omega) h0
        have := (slPtr_some hp).1; cases this
      · omega
    subst h0
    simp only [Option.isNone_none, cond_true] at hE
    exact ⟨M, none, .known 0, c17 hE, Mem.Upto.refl M, fun h => by omega⟩
  | some p =>
    simp only [Option.isNone_some, cond_false] at hE
    obtain ⟨M1, e1, g1, u1, n1⟩ := alloc_at M ⟨[], .fixed⟩
    rw [e1] at hE
    by_cases h0 : 0 < l
    · have h1 := h.upto encP2 (by omega) u1
      rw [appK_more (xs := []) rfl h1.1 (by omega) (by omega)] at hE
      obtain ⟨M2, e2, g2, u2, n2⟩ := alloc_at M1 ⟨[] ++ xs.flatMap encP, .grow 2⟩
      rw [e2] at hE
      exact ⟨M2, _, _, by have := c17 hE; rwa [Nat.zero_add] at this, u1.trans u2, fun _ => ⟨M1.n, rfl, rfl, by rw [List.nil_append] at g2; exact g2, by omega⟩⟩
    · obtain rfl : l = 0 := by omega
      rw [appK_none (Nat.le_refl 0)] at hE
      exact ⟨M1, _, _, c17 hE, u1, fun h => by omega⟩
/-- table.Of: what stands twice is put over. -/
theorem of_loop {N1 : Nat} {S : List Pr} {sa : Option (Nat × Nat)} {sl : Nat} {sc : Cap} {M1 : Mem} (hS : ∀ M : Mem, (∀ y, y < N1 → M.get y = M1.get y) → Sl M 2 encP sa sl sc S) (hs : Srt S) (hsl : sl ≤ 64) :
    ∀ (d i : Nat) (M : Mem) (T : List Pr) (v : SlV), i + d = sl → OwnT N1 M v T → N1 ≤ M.n → (∀ y, y < N1 → M.get y = M1.get y) → Tab (S.take i) T → T.length ≤ i →
    ∃ M' v' T', p15_1 C prog.meth v.1 v.2.1 v.2.2 sa sl sc (sl : Int) (i : Int) M = some (.tup [.sl v'.1 v'.2.1 v'.2.2, .int .i64 0], M') ∧ OwnT N1 M' v' T' ∧ N1 ≤ M'.n ∧ (∀ y, y < N1 → M'.get y = M1.get y) ∧ Tab S T' ∧ T'.length ≤ sl := by
  intro d
  induction d with
  | zero =>
    intro i M T v hi hO hN hk hT hTl
    have hE := p15_1_eq C prog.meth v.1 v.2.1 v.2.2 sa sl sc (sl : Int) (i : Int) M
    have hSl := (hS M hk).2
    have q : ¬ ((i : Int) < (sl : Int)) := by omega
    simp only [q, decide_false, cond_false] at hE
    rw [List.take_of_length_le (by omega)] at hT
    exact ⟨M, v, T, hE, hO, hN, hk, hT, by omega⟩
  | succ d ih =>
    intro i M T v hi hO hN hk hT hTl
    have hE := p15_1_eq C prog.meth v.1 v.2.1 v.2.2 sa sl sc (sl : Int) (i : Int) M
    have hSS := hS M hk
    have hSl := hSS.2
    have q : ((i : Int) < (sl : Int)) := by omega
    have c0 : (0 : Int) ≤ (i : Int) := by omega
    have c1 : Nat.blt i sl = true := Mem.blt_iff.2 (by omega)
    have hw : IntKind.wrap .i64 ((i : Int) + 1) = ((i + 1 : Nat) : Int) := by rw [wrap_i64 (by omega) (by omega)]; rfl
    obtain ⟨p, hp, l1, l2⟩ := pr_ld hSS (i := i) (by omega)
    obtain ⟨x, hx⟩ : ∃ x, S[i]'(by omega) = x := ⟨_, rfl⟩
    rw [hx] at l1 l2
    obtain ⟨M2, e2, g2, u2, n2⟩ := alloc_at M ⟨[.int .u64 0, .int .u64 0], .fixed⟩
    obtain ⟨M3, s3, g3, n3, b3⟩ := st_at (i := 0) (vs := [.int .u64 x.1, .int .u64 x.2]) g2 (by simp)
    have g3 : M3.get M.n = some ⟨[.int .u64 x.1, .int .u64 x.2], .fixed⟩ := g3
    have u3 : M.Upto M3 := ⟨by omega, fun y hy => by rw [b3.2 y (by omega) (by omega), u2.2 y hy]⟩
    have hO3 := hO.upto u3
    have hk3 : ∀ y, y < N1 → M3.get y = M1.get y := fun y hy => by rw [u3.2 y (by omega), hk y hy]
    have hvl := hO.1
    have htk : S.take (i + 1) = S.take i ++ [x] := by rw [List.take_succ_eq_append_getElem (by omega), hx]
    have hle : ∀ y ∈ S.take i, y.1 ≤ x.1 := fun y hy => by
      obtain ⟨j, hj, hji, rfl⟩ := mem_take' hy
      rw [← hx]
      exact hs.le (by omega) (by omega)
    have hTle : ∀ y ∈ T, y.1 ≤ x.1 := fun y hy => hle y (by
      obtain ⟨k, w⟩ := y
      exact lastv_mem ((hT.mem k w).1 hy))
    simp only [Option.bind_some, List.getElem?_cons_zero, List.getElem?_cons_succ, int?_int, AVal.bool?, AVal.ptr?, AVal.sl?, AVal.tup?, AVal.agg?, AVal.ifc?, AVal.fn?, AVal.str?, List.head?_cons, List.tail_cons, List.isEmpty_nil, cond_true, cond_false, Option.isNone_some, Option.isNone_none, Bool.not_true, Bool.not_false, decide_true, decide_false, beq_self_eq_true, bne_self_eq_false, Int.reduceBEq, Int.reduceBNe, Int.cast_ofNat_Int, q, c0, c1, Int.toNat_natCast, hp, l1, l2, e2, s3] at hE
    -- one pair more
    have more : Tab (S.take (i + 1)) (T ++ [x]) → ∃ M' v' T', (Option.bind (M3.ldI .u64 M.n 0) fun x213 => Option.bind (M3.ldI .u64 M.n 1) fun x214 => (let M215 := M3.alloc ⟨[.int .u64 x213, .int .u64 x214], .fixed⟩; appK false 2 16 M215 v.1 v.2.1 v.2.2 (.sl (some (M3.n, 0)) 1 (.known 1)) fun s216a s216l s216c M217 => p15_1 C prog.meth s216a s216l s216c sa sl sc (sl : Int) (IntKind.wrap .i64 ((i : Int) + 1)) M217)) = some (.tup [.sl v'.1 v'.2.1 v'.2.2, .int .i64 0], M') ∧ OwnT N1 M' v' T' ∧ N1 ≤ M'.n ∧ (∀ y, y < N1 → M'.get y = M1.get y) ∧ Tab S T' ∧ T'.length ≤ sl := by
      intro hT'
      obtain ⟨M4, k1, k2, k3, k4⟩ := hO3.push x (by omega) (by omega)
      obtain ⟨M', v', T', r1, r2⟩ := ih (i + 1) M4 (T ++ [x]) (some (M3.n + 1, 0), v.2.1 + 1, .unk 0) (by omega) k2 (by omega) (fun y hy => by rw [k4.2 y (by omega) (by omega), hk3 y hy]) hT' (by simp; omega)
      refine ⟨M', v', T', ?_, r2⟩
      simp only [Option.bind_some, List.getElem?_cons_zero, List.getElem?_cons_succ, int?_int, AVal.bool?, AVal.ptr?, AVal.sl?, AVal.tup?, AVal.agg?, AVal.ifc?, AVal.fn?, AVal.str?, List.head?_cons, List.tail_cons, List.isEmpty_nil, cond_true, cond_false, Option.isNone_some, Option.isNone_none, Bool.not_true, Bool.not_false, decide_true, decide_false, beq_self_eq_true, bne_self_eq_false, Int.reduceBEq, Int.reduceBNe, Int.cast_ofNat_Int, ldI_at g3]
      rw [k1, hw]
      exact r1
    by_cases h0 : ((v.2.1 : Nat) : Int) > 0
    · obtain ⟨T0, t, rfl⟩ : ∃ T0 t, T = T0 ++ [t] := ⟨T.dropLast, T.getLast (by intro e; rw [e] at hvl; simp at hvl; omega), (List.dropLast_concat_getLast _).symm⟩
      simp only [List.length_append, List.length_singleton] at hvl hTl
      have hwn : IntKind.wrap .i64 (((v.2.1 : Nat) : Int) - 1) = (T0.length : Int) := by rw [wrap_i64 (by omega) (by omega)]; omega
      have d0 : (0 : Int) ≤ (T0.length : Int) := by omega
      have d1 : Nat.blt T0.length v.2.1 = true := Mem.blt_iff.2 (by omega)
      obtain ⟨p', hp', m1, m2⟩ := pr_ld hO3.row.sl (i := T0.length) (by omega)
      have et : (T0 ++ [t])[T0.length]'(by simp) = t := by simp
      rw [et] at m1
      simp only [Option.bind_some, List.getElem?_cons_zero, List.getElem?_cons_succ, int?_int, AVal.bool?, AVal.ptr?, AVal.sl?, AVal.tup?, AVal.agg?, AVal.ifc?, AVal.fn?, AVal.str?, List.head?_cons, List.tail_cons, List.isEmpty_nil, cond_true, cond_false, Option.isNone_some, Option.isNone_none, Bool.not_true, Bool.not_false, decide_true, decide_false, beq_self_eq_true, bne_self_eq_false, Int.reduceBEq, Int.reduceBNe, Int.cast_ofNat_Int, h0, hwn, d0, d1, Int.toNat_natCast, hp', Nat.add_zero, m1, ldI_at g3] at hE
      by_cases he : t.1 = x.1
      · rw [he] at hE
        simp only [beq_self_eq_true, cond_true] at hE
        obtain ⟨hol, e | ⟨o, f1, f2, f3, f4⟩⟩ := hO3
        · rw [e] at h0; simp at h0
        · have hpo : p' = (o, 0) := by
            rw [f1, f2] at hp'
            have hp' : some (o, 0) = some p' := hp'
            exact (Option.some.inj hp').symm
          subst hpo
          obtain ⟨M4, s4, d4, n4, b4⟩ := Dat.wr (L1 := T0) (L2 := []) (x := t) f3 x rfl
          have s4' : M3.st o (0 + T0.length * 2) [.int .u64 x.1, .int .u64 x.2] = some M4 := by rw [Nat.zero_add]; exact s4
          simp only [s4', Option.bind_some, hw] at hE
          obtain ⟨M', v', T', r1, r2⟩ := ih (i + 1) M4 (T0 ++ [x]) v (by omega) ⟨by simp; omega, .inr ⟨o, f1, f2, d4, f4⟩⟩ (by omega) (fun y hy => by rw [b4.2 y (by omega) (by omega), hk3 y hy]) (by rw [htk]; exact hT.over he) (by simp; omega)
          exact ⟨M', v', T', hE.trans r1, r2⟩
      · have he' : (t.1 == x.1) = false := by simpa using he
        simp only [he', cond_false] at hE
        obtain ⟨M', v', T', r1, r2⟩ := more (by
          rw [htk]
          refine hT.more (fun y hy => ?_)
          obtain ⟨_, _, u3⟩ := Up.app.1 hT.up
          have ht := hTle t (by simp)
          rcases List.mem_append.1 hy with hy | hy
          · have := u3 y hy t (by simp); omega
          · obtain rfl : y = t := by simpa using hy
            omega)
        simp only [Option.bind_some, List.getElem?_cons_zero, List.getElem?_cons_succ, int?_int, AVal.bool?, AVal.ptr?, AVal.sl?, AVal.tup?, AVal.agg?, AVal.ifc?, AVal.fn?, AVal.str?, List.head?_cons, List.tail_cons, List.isEmpty_nil, cond_true, cond_false, Option.isNone_some, Option.isNone_none, Bool.not_true, Bool.not_false, decide_true, decide_false, beq_self_eq_true, bne_self_eq_false, Int.reduceBEq, Int.reduceBNe, Int.cast_ofNat_Int, ldI_at g3] at r1
        exact ⟨M', v', T', hE.trans r1, r2⟩
    · obtain rfl : T = [] := List.length_eq_zero_iff.1 (by omega)
      simp only [h0, decide_false, cond_false] at hE
      obtain ⟨M', v', T', r1, r2⟩ := more (by rw [htk]; exact hT.more (by simp))
      exact ⟨M', v', T', hE.trans r1, r2⟩
theorem Of_C {M : Mem} {a : Option (Nat × Nat)} {l : Nat} {c : Cap} {xs : List Pr} (h : Sl M 2 encP a l c xs) (h64 : l ≤ 64) :
    ∃ M' v T, C 15 [.sl a l c] M = some (.tup [.sl v.1 v.2.1 v.2.2, .int .i64 0], M') ∧ M.Upto M' ∧ OwnT M.n M' v T ∧ Tab xs T ∧ T.length ≤ l := by
  have hE := p15_0_eq C prog.meth a l c M
  have hxl := h.2
  have q : ¬ ((l : Int) > 64) := by omega
  obtain ⟨M1, a2, c2, k1, u1, k3⟩ := CloneP_C h (by omega)
  simp only [q, decide_false, cond_false] at hE
  rw [k1, Option.bind_some] at hE
  simp only [Option.bind_some, List.getElem?_cons_zero, List.getElem?_cons_succ, int?_int, AVal.bool?, AVal.ptr?, AVal.sl?, AVal.tup?, AVal.agg?, AVal.ifc?, AVal.fn?, AVal.str?, List.head?_cons, List.tail_cons, List.isEmpty_nil, cond_true, cond_false, Option.isNone_some, Option.isNone_none, Bool.not_true, Bool.not_false, decide_true, decide_false, beq_self_eq_true, bne_self_eq_false, Int.reduceBEq, Int.reduceBNe, Int.cast_ofNat_Int] at hE
  have n1 := u1.1
  have fin : ∀ (M2 : Mem) (S : List Pr), M1.n ≤ M2.n → (∀ y, y < M.n → M2.get y = M.get y) → Srt S → St xs S → C 18 [.sl a2 l c2, cmpF] M1 = some (.tup [], M2) → (∀ M3 : Mem, (∀ y, y < M2.n → M3.get y = M2.get y) → Sl M3 2 encP a2 l c2 S) →
      ∃ M' v T, C 15 [.sl a l c] M = some (.tup [.sl v.1 v.2.1 v.2.2, .int .i64 0], M') ∧ M.Upto M' ∧ OwnT M.n M' v T ∧ Tab xs T ∧ T.length ≤ l := by
    intro M2 S hn hk hs hst hc hS
    rw [hc, Option.bind_some] at hE
    simp only [Option.bind_some, List.getElem?_cons_zero, List.getElem?_cons_succ, int?_int, AVal.bool?, AVal.ptr?, AVal.sl?, AVal.tup?, AVal.agg?, AVal.ifc?, AVal.fn?, AVal.str?, List.head?_cons, List.tail_cons, List.isEmpty_nil, cond_true, cond_false, Option.isNone_some, Option.isNone_none, Bool.not_true, Bool.not_false, decide_true, decide_false, beq_self_eq_true, bne_self_eq_false, Int.reduceBEq, Int.reduceBNe, Int.cast_ofNat_Int] at hE
    obtain ⟨M', v', T', r1, r2, r3, r4, r5, r6⟩ := of_loop (N1 := M2.n) (M1 := M2) hS hs h64 l 0 M2 [] (none, 0, .known 0) (by omega) (OwnT.nil _ _) (Nat.le_refl _) (fun _ _ => rfl) (by rw [List.take_zero]; exact Tab.nil) (Nat.le_refl _)
    refine ⟨M', v', T', c15 (hE.trans r1), ⟨by omega, fun y hy => by rw [r4 y (by omega), hk y hy]⟩, ?_, r5.st hst.symm, r6⟩
    obtain ⟨o1, o2 | ⟨o, f1, f2, f3, f4⟩⟩ := r2
    · exact ⟨o1, .inl o2⟩
    · exact ⟨o1, .inr ⟨o, f1, f2, f3, by omega⟩⟩
  by_cases h0 : 0 < l
  · obtain ⟨o, rfl, rfl, hd, ho⟩ := k3 h0
    obtain ⟨M2, S, t1, t2, t3, t4, t5, t6⟩ := Sort_C (by omega) hxl hd
    refine fin M2 S t6.1 (fun y hy => by rw [t6.2 y (by omega) (by omega), u1.2 y hy]) t4 t5 t1 (fun M3 hk => ?_)
    have := Sl.whole (c := .unk 0) encP2 ((hk o (Mem.get_lt t2)).trans t2) (by simp) rfl
    rwa [t3] at this
  · obtain rfl : l = 0 := by omega
    obtain rfl : xs = [] := List.length_eq_zero_iff.1 hxl
    exact fin M1 [] (Nat.le_refl _) (fun y hy => u1.2 y hy) List.Pairwise.nil (St.refl _) Sort0_C (fun M3 _ => Sl.nil _ _ _ _ _)
theorem Of0_C {M : Mem} {a : Option (Nat × Nat)} {l : Nat} {c : Cap} (h64 : ¬ l ≤ 64) : C 15 [.sl a l c] M = some (.tup [.sl none 0 (.known 0), .int .i64 3], M) := by
  have hE := p15_0_eq C prog.meth a l c M
  have q : ((l : Int) > 64) := by omega
  simp only [q, decide_true, cond_true] at hE
  exact c15 hE
/-- The document's: one pair is put in. -/
theorem rof_ins {N1 : Nat} {O xs : List Pr} {oa xa : Option (Nat × Nat)} {ol xl i : Nat} {oc xc : Cap} {x : Pr} {M1 : Mem} (hO : ∀ M : Mem, (∀ y, y < N1 → M.get y = M1.get y) → Sl M 2 encP oa ol oc O) (hX : ∀ M : Mem, (∀ y, y < N1 → M.get y = M1.get y) → Sl M 2 encP xa xl xc xs) (hi : i < xl) (hx : xs[i]? = some x) (hol : ol ≤ 64) (hxl : xl ≤ 64) :
    ∀ (d k : Nat) (M : Mem) (N : List Pr) (w : SlV) (put : Bool), k + d = ol → N.length ≤ 2 * k → OwnT N1 M w N → N1 ≤ M.n → (∀ y, y < N1 → M.get y = M1.get y) →
    ∃ M' w', p16_2 C prog.meth xa xl xc oa ol oc (i : Int) w.1 w.2.1 w.2.2 put (k : Int) M = p16_1 C prog.meth xa xl xc w'.1 w'.2.1 w'.2.2 ((i + 1 : Nat) : Int) M' ∧ OwnT N1 M' w' (N ++ ins x (O.drop k) put) ∧ N1 ≤ M'.n ∧ (∀ y, y < N1 → M'.get y = M1.get y) := by
  have hw : IntKind.wrap .i64 ((i : Int) + 1) = ((i + 1 : Nat) : Int) := by rw [wrap_i64 (by omega) (by omega)]; rfl
  have c0 : (0 : Int) ≤ (i : Int) := by omega
  have c1 : Nat.blt i xl = true := Mem.blt_iff.2 hi
  have rdx : ∀ M : Mem, (∀ y, y < N1 → M.get y = M1.get y) → ∃ p, slPtr xa xc = some p ∧ M.ldI .u64 p.1 (p.2 + i * 2) = some x.1 ∧ M.ldI .u64 p.1 (p.2 + i * 2 + 1) = some x.2 := fun M hk => by
    obtain ⟨p, hp, l1, l2⟩ := pr_ld (hX M hk) hi
    have hxl := (hX M hk).2
    have : xs[i]'(by omega) = x := by
      rw [List.getElem?_eq_getElem (by omega)] at hx
      exact Option.some.inj hx
    rw [this] at l1 l2
    exact ⟨p, hp, l1, l2⟩
  intro d
  induction d with
  | zero =>
    intro k M N w put hk hNl hN hN1 hM
    have hE := p16_2_eq C prog.meth xa xl xc oa ol oc (i : Int) w.1 w.2.1 w.2.2 put (k : Int) M
    have hOl := (hO M hM).2
    have q : ¬ ((k : Int) < (ol : Int)) := by omega
    simp only [q, decide_false, cond_false] at hE
    rw [List.drop_eq_nil_of_le (by omega)]
    cases put with
    | true =>
      simp only [Bool.not_true, cond_false, hw] at hE
      exact ⟨M, w, hE, by simpa [ins] using hN, hN1, hM⟩
    | false =>
      obtain ⟨p, hp, l1, l2⟩ := rdx M hM
      obtain ⟨M2, k1, k2, k3, k4⟩ := hN.push x (by have := hN.1; omega) hN1
      simp only [Option.bind_some, List.getElem?_cons_zero, List.getElem?_cons_succ, int?_int, AVal.bool?, AVal.ptr?, AVal.sl?, AVal.tup?, AVal.agg?, AVal.ifc?, AVal.fn?, AVal.str?, List.head?_cons, List.tail_cons, List.isEmpty_nil, cond_true, cond_false, Option.isNone_some, Option.isNone_none, Bool.not_true, Bool.not_false, decide_true, decide_false, beq_self_eq_true, bne_self_eq_false, Int.reduceBEq, Int.reduceBNe, Int.cast_ofNat_Int, c0, c1, Int.toNat_natCast, hp, l1, l2, hw] at hE
      rw [k1] at hE
      exact ⟨M2, _, hE, k2, by omega, fun y hy => by rw [k4.2 y (by omega) (by omega), hM y hy]⟩
  | succ d ih =>
    intro k M N w put hk hNl hN hN1 hM
    have hE := p16_2_eq C prog.meth xa xl xc oa ol oc (i : Int) w.1 w.2.1 w.2.2 put (k : Int) M
    have hOO := hO M hM
    have hOl := hOO.2
    have q : ((k : Int) < (ol : Int)) := by omega
    have d0 : (0 : Int) ≤ (k : Int) := by omega
    have d1 : Nat.blt k ol = true := Mem.blt_iff.2 (by omega)
    have hwk : IntKind.wrap .i64 ((k : Int) + 1) = ((k + 1 : Nat) : Int) := by rw [wrap_i64 (by omega) (by omega)]; rfl
    obtain ⟨y, hy⟩ : ∃ y, O[k]'(by omega) = y := ⟨_, rfl⟩
    have hdrop : O.drop k = y :: O.drop (k + 1) := by rw [List.drop_eq_getElem_cons (by omega), hy]
    rw [hdrop]
    have rdo : ∀ M : Mem, (∀ y, y < N1 → M.get y = M1.get y) → ∃ p, slPtr oa oc = some p ∧ M.ldI .u64 p.1 (p.2 + k * 2) = some y.1 ∧ M.ldI .u64 p.1 (p.2 + k * 2 + 1) = some y.2 := fun M hk => by
      obtain ⟨p, hp, l1, l2⟩ := pr_ld (hO M hk) (i := k) (by omega)
      rw [hy] at l1 l2
      exact ⟨p, hp, l1, l2⟩
    -- the second half
    have half : ∀ (M : Mem) (N : List Pr) (w : SlV) (put : Bool), N.length ≤ 2 * k + 1 → OwnT N1 M w N → N1 ≤ M.n → (∀ y, y < N1 → M.get y = M1.get y) → ∃ M' w', p16_3 C prog.meth xa xl xc oa ol oc (i : Int) w.1 w.2.1 w.2.2 put (k : Int) M = p16_1 C prog.meth xa xl xc w'.1 w'.2.1 w'.2.2 ((i + 1 : Nat) : Int) M' ∧ OwnT N1 M' w' (N ++ ((if y.1 ≠ x.1 then [y] else []) ++ ins x (O.drop (k + 1)) put)) ∧ N1 ≤ M'.n ∧ (∀ y, y < N1 → M'.get y = M1.get y) := by
      intro M N w put hNl hN hN1 hM
      have hF := p16_3_eq C prog.meth xa xl xc oa ol oc (i : Int) w.1 w.2.1 w.2.2 put (k : Int) M
      obtain ⟨p, hp, l1, l2⟩ := rdx M hM
      obtain ⟨p', hp', m1, m2⟩ := rdo M hM
      by_cases he : y.1 = x.1
      · rw [if_neg (fun h => h he)]
        simp only [Option.bind_some, List.getElem?_cons_zero, List.getElem?_cons_succ, int?_int, AVal.bool?, AVal.ptr?, AVal.sl?, AVal.tup?, AVal.agg?, AVal.ifc?, AVal.fn?, AVal.str?, List.head?_cons, List.tail_cons, List.isEmpty_nil, cond_true, cond_false, Option.isNone_some, Option.isNone_none, Bool.not_true, Bool.not_false, decide_true, decide_false, beq_self_eq_true, bne_self_eq_false, Int.reduceBEq, Int.reduceBNe, Int.cast_ofNat_Int, c0, c1, d0, d1, Int.toNat_natCast, hp, hp', Nat.add_zero, l1, m1, he, hwk] at hF
        obtain ⟨M', w', r1, r2⟩ := ih (k + 1) M N w put (by omega) (by omega) hN hN1 hM
        exact ⟨M', w', hF.trans r1, by simpa using r2⟩
      · rw [if_pos he]
        have he' : (y.1 != x.1) = true := by simpa using he
        obtain ⟨M2, k1, k2, k3, k4⟩ := hN.push y (by have := hN.1; omega) hN1
        simp only [Option.bind_some, List.getElem?_cons_zero, List.getElem?_cons_succ, int?_int, AVal.bool?, AVal.ptr?, AVal.sl?, AVal.tup?, AVal.agg?, AVal.ifc?, AVal.fn?, AVal.str?, List.head?_cons, List.tail_cons, List.isEmpty_nil, cond_true, cond_false, Option.isNone_some, Option.isNone_none, Bool.not_true, Bool.not_false, decide_true, decide_false, beq_self_eq_true, bne_self_eq_false, Int.reduceBEq, Int.reduceBNe, Int.cast_ofNat_Int, c0, c1, d0, d1, Int.toNat_natCast, hp, hp', Nat.add_zero, l1, m1, m2, he', hwk] at hF
        rw [k1] at hF
        obtain ⟨M', w', r1, r2⟩ := ih (k + 1) M2 (N ++ [y]) _ put (by omega) (by simp; omega) k2 (by omega) (fun z hz => by rw [k4.2 z (by omega) (by omega), hM z hz])
        exact ⟨M', w', hF.trans r1, by simpa using r2⟩
    cases put with
    | true =>
      simp only [q, decide_true, cond_true, Bool.not_true, cond_false] at hE
      obtain ⟨M', w', r1, r2⟩ := half M N w true (by omega) hN hN1 hM
      refine ⟨M', w', hE.trans r1, ?_⟩
      simp only [ins, Bool.true_or]
      rw [if_neg (by simp), List.nil_append]
      exact r2
    | false =>
      obtain ⟨p, hp, l1, l2⟩ := rdx M hM
      obtain ⟨p', hp', m1, m2⟩ := rdo M hM
      simp only [Option.bind_some, List.getElem?_cons_zero, List.getElem?_cons_succ, int?_int, AVal.bool?, AVal.ptr?, AVal.sl?, AVal.tup?, AVal.agg?, AVal.ifc?, AVal.fn?, AVal.str?, List.head?_cons, List.tail_cons, List.isEmpty_nil, cond_true, cond_false, Option.isNone_some, Option.isNone_none, Bool.not_true, Bool.not_false, decide_true, decide_false, beq_self_eq_true, bne_self_eq_false, Int.reduceBEq, Int.reduceBNe, Int.cast_ofNat_Int, q, c0, c1, d0, d1, Int.toNat_natCast, hp, hp', Nat.add_zero, l1, l2, m1] at hE
      by_cases hge : y.1 ≥ x.1
      · obtain ⟨M2, k1, k2, k3, k4⟩ := hN.push x (by have := hN.1; omega) hN1
        simp only [hge, decide_true, cond_true] at hE
        rw [k1] at hE
        obtain ⟨M', w', r1, r2⟩ := half M2 (N ++ [x]) _ true (by simp; omega) k2 (by omega) (fun z hz => by rw [k4.2 z (by omega) (by omega), hM z hz])
        refine ⟨M', w', hE.trans r1, ?_⟩
        simp only [ins, Bool.false_or]
        rw [if_pos ⟨trivial, hge⟩, decide_eq_true hge]
        simpa using r2
      · simp only [hge, decide_false, cond_false] at hE
        obtain ⟨M', w', r1, r2⟩ := half M N w false (by omega) hN hN1 hM
        refine ⟨M', w', hE.trans r1, ?_⟩
        simp only [ins, Bool.false_or]
        rw [if_neg (fun h => hge h.2), decide_eq_false hge, List.nil_append]
        exact r2
theorem ROf_C {M : Mem} {a : Option (Nat × Nat)} {l : Nat} {c : Cap} {xs : List Pr} (h : Sl M 2 encP a l c xs) (h64 : l ≤ 64) :
    ∃ M' v T, C 16 [.sl a l c] M = some (.tup [.sl v.1 v.2.1 v.2.2, .int .i64 0], M') ∧ M.Upto M' ∧ OwnT M.n M' v T ∧ Tab xs T := by
  have hE := p16_0_eq C prog.meth a l c M
  have hxl := h.2
  have q : ¬ ((l : Int) > 64) := by omega
  simp only [q, decide_false, cond_false] at hE
  have loop : ∀ (d i : Nat) (M2 : Mem) (T : List Pr) (v : SlV), i + d = l → OwnT M.n M2 v T → M.Upto M2 → Tab (xs.take i) T → T.length ≤ i →
      ∃ M' v' T', p16_1 C prog.meth a l c v.1 v.2.1 v.2.2 (i : Int) M2 = some (.tup [.sl v'.1 v'.2.1 v'.2.2, .int .i64 0], M') ∧ M.Upto M' ∧ OwnT M.n M' v' T' ∧ Tab xs T' := by
    intro d
    induction d with
    | zero =>
      intro i M2 T v hi hO hu hT hTl
      have hF := p16_1_eq C prog.meth a l c v.1 v.2.1 v.2.2 (i : Int) M2
      have q : ¬ ((i : Int) < (l : Int)) := by omega
      simp only [q, decide_false, cond_false] at hF
      rw [List.take_of_length_le (by omega)] at hT
      exact ⟨M2, v, T, hF, hu, hO, hT⟩
    | succ d ih =>
      intro i M2 T v hi hO hu hT hTl
      have hF := p16_1_eq C prog.meth a l c v.1 v.2.1 v.2.2 (i : Int) M2
      have q : ((i : Int) < (l : Int)) := by omega
      simp only [q, decide_true, cond_true] at hF
      have hvl := hO.1
      obtain ⟨x, hx⟩ : ∃ x, xs[i]? = some x := ⟨_, List.getElem?_eq_getElem (by omega)⟩
      have hu1 := hu.1
      have keepO : ∀ M3 : Mem, (∀ y, y < M2.n → M3.get y = M2.get y) → OwnT M.n M3 v T := fun M3 hk => hO.keep (fun y _ hy => hk y hy)
      obtain ⟨M3, w, r1, r2, r3, r4⟩ := rof_ins (N1 := M2.n) (M1 := M2) (O := T) (xs := xs) (oa := v.1) (ol := v.2.1) (oc := v.2.2) (xa := a) (xl := l) (xc := c) (i := i) (x := x) (fun M3 hk => (keepO M3 hk).row.sl) (fun M3 hk => h.same (fun p hp => by
        subst hp
        have := Sl.lt (o := p.1) (i := p.2) h encP2 (by omega) (by omega)
        rw [hk _ (by omega), hu.2 _ (by omega)])) (by omega) hx (by omega) h64 v.2.1 0 M2 [] (none, 0, .known 0) false (by omega) (by simp) (OwnT.nil _ _) (Nat.le_refl _) (fun _ _ => rfl)
      rw [List.drop_zero, List.nil_append] at r2
      have htk : xs.take (i + 1) = xs.take i ++ [x] := by
        rw [List.take_succ_eq_append_getElem (by omega)]
        rw [List.getElem?_eq_getElem (by omega)] at hx
        rw [Option.some.inj hx]
      have hT' : Tab (xs.take (i + 1)) (ins x T false) := by rw [htk]; exact ins_tab hT
      obtain ⟨M', v', T', w1, w2⟩ := ih (i + 1) M3 (ins x T false) w (by omega) (by
        obtain ⟨o1, o2 | ⟨o, f1, f2, f3, f4⟩⟩ := r2
        · exact ⟨o1, .inl o2⟩
        · exact ⟨o1, .inr ⟨o, f1, f2, f3, by omega⟩⟩) ⟨by omega, fun y hy => by rw [r4 y (by omega), hu.2 y hy]⟩ hT' (by
        have hmul : ∀ (O : List Pr) (put : Bool), (ins x O put).length ≤ O.length + (if put then 0 else 1) := by
          intro O
          induction O with
          | nil => intro put; cases put <;> simp [ins]
          | cons z O ihO =>
            intro put
            simp only [ins, List.length_append, List.length_cons]
            have i1 := ihO (put || decide (x.1 ≤ z.1))
            cases put with
            | true =>
              simp only [Bool.true_or, if_true] at i1 ⊢
              rw [if_neg (by simp)]
              split <;> simp <;> omega
            | false =>
              simp only [Bool.false_or] at i1 ⊢
              by_cases hz : x.1 ≤ z.1
              · simp only [hz, decide_true, if_true] at i1 ⊢
                simp only [and_self, if_true]
                split <;> simp <;> omega
              · simp only [hz, decide_false] at i1 ⊢
                simp only [and_false, if_false]
                split <;> simp at i1 ⊢ <;> omega
        have := hmul T false
        simp only [Bool.false_eq_true, if_false] at this
        omega)
      exact ⟨M', v', T', hF.trans (r1.trans w1), w2⟩
  obtain ⟨M', v', T', w1, w2, w3, w4⟩ := loop l 0 M [] (none, 0, .known 0) (by omega) (OwnT.nil _ _) (Mem.Upto.refl _) (by rw [List.take_zero]; exact Tab.nil) (Nat.le_refl _)
  exact ⟨M', v', T', c16 (hE.trans w1), w2, w3, w4⟩
theorem ROf0_C {M : Mem} {a : Option (Nat × Nat)} {l : Nat} {c : Cap} (h64 : ¬ l ≤ 64) : C 16 [.sl a l c] M = some (.tup [.sl none 0 (.known 0), .int .i64 3], M) := by
  have hE := p16_0_eq C prog.meth a l c M
  have q : ((l : Int) > 64) := by omega
  simp only [q, decide_true, cond_true] at hE
  exact c16 hE
end Go.Proofs.Ytlglggcheffoeaa.M
