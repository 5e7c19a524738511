import Derived.Test.YtjcakemgghfflaaXLib2
import Derived.Test.YtjcakemgghfflaaT
import Derived.Test.YtjcakemgghfflaaXLib4
import Derived.Test.YtjcakemgghfflaaXLib6
import Derived.Test.YtjcakemgghfflaaXLib5
import Derived.Test.YtjcakemgghfflaaXFc
set_option linter.unusedVariables false
set_option linter.unusedSimpArgs false
set_option linter.unnecessarySimpa false
namespace Go.Proofs.Ytjcakemgghfflaa.M
open Go.Abs
theorem eqBytes_loop {a : Option (Nat × Nat)} {l : Nat} {c : Cap} {a' : Option (Nat × Nat)} {c' : Cap} {M : Mem} {xs ys : List Int} (hx : M.ints .u8 a l c = some xs) (hy : M.ints .u8 a' l c' = some ys) (hl : l < 2 ^ 62) :
    ∀ (d i : Nat), i + d = l → (∀ j, j < i → xs[j]? = ys[j]?) → p15_1 C prog.meth a l c a' l c' i M = some (.bool (decide (xs = ys)), M) := by
  obtain ⟨lx, gx⟩ := ints_iff.1 hx
  obtain ⟨ly, gy⟩ := ints_iff.1 hy
  intro d
  induction d with
  | zero =>
    intro i hi hj
    rw [p15_1_eq]
    have : xs = ys := by
      apply List.ext_getElem?
      intro j
      by_cases h : j < l
      · exact hj j (by omega)
      · rw [List.getElem?_eq_none (by omega), List.getElem?_eq_none (by omega)]
    have h1 : ¬ ((i : Int) < (l : Int)) := by omega
    simp [h1, this]
  | succ d ih =>
    intro i hi hj
    rw [p15_1_eq]
    have h1 : (i : Int) < (l : Int) := by omega
    have h2 : Nat.blt i l = true := Mem.blt_iff.2 (by omega)
    obtain ⟨p, hp, hpv⟩ := gx i (by omega)
    obtain ⟨q, hq, hqv⟩ := gy i (by omega)
    rw [List.getElem?_eq_getElem (by omega)] at hpv hqv
    have hw : IntKind.wrap .i64 ((i : Int) + 1) = ((i + 1 : Nat) : Int) := by rw [wrap_i64 (by omega) (by omega)]; rfl
    simp only [h1, decide_true, cond_true, Int.natCast_nonneg, Int.toNat_natCast, h2, hp, hq, Option.bind_some, Nat.mul_one, hpv, hqv, hw]
    by_cases he : xs[i] = ys[i]
    · have : (xs[i] != ys[i]) = false := by simp [he]
      rw [this, cond_false]
      refine ih (i + 1) (by omega) (fun j hj' => ?_)
      by_cases e : j = i
      · subst e; rw [List.getElem?_eq_getElem (by omega), List.getElem?_eq_getElem (by omega), he]
      · exact hj j (by omega)
    · have : (xs[i] != ys[i]) = true := by simp [he]
      rw [this, cond_true]
      have hne : xs ≠ ys := fun h => he (by subst h; rfl)
      simp [hne]
theorem EqBytes_C {a : Option (Nat × Nat)} {l : Nat} {c : Cap} {a' : Option (Nat × Nat)} {l' : Nat} {c' : Cap} {M : Mem} {xs ys : List Int} (hx : M.ints .u8 a l c = some xs) (hy : M.ints .u8 a' l' c' = some ys) (hl : l < 2 ^ 62) :
    C 15 [.sl a l c, .sl a' l' c'] M = some (.bool (decide (xs = ys)), M) := by
  refine c15 ?_
  rw [p15_0_eq]
  by_cases h : l = l'
  · subst h
    have : (((l : Nat) : Int) != (l : Int)) = false := by simp
    rw [this, cond_false]
    exact eqBytes_loop hx hy hl l 0 (by omega) (fun j hj => by omega)
  · have : (((l : Nat) : Int) != (l' : Int)) = true := by simp; omega
    rw [this, cond_true]
    have hne : xs ≠ ys := fun e => h (by rw [← ints_length hx, ← ints_length hy, e])
    simp [hne]
end Go.Proofs.Ytjcakemgghfflaa.M
set_option linter.unnecessarySimpa false
namespace Go.Proofs.Ytjcakemgghfflaa.M
open Go.Abs
def Own1 (M : Mem) (v : SlV) (xs : List Int) : Prop := xs.length = v.2.1 ∧ (0 < v.2.1 → ∃ o, v.1 = some (o, 0) ∧ v.2.2 = .unk 0 ∧ M.get o = some ⟨xs.map (.int .u8), .grow 1⟩)
theorem Own1.bytes {M : Mem} {v : SlV} {xs : List Int} (h : Own1 M v xs) : M.bytesAt v = some xs := by
  obtain ⟨a, l, c⟩ := v
  obtain ⟨h1, h2⟩ := h
  by_cases h0 : 0 < l
  · obtain ⟨o, h3, h4, h5⟩ := h2 h0
    simp only at h1 h3 h4
    subst h1 h3 h4
    exact ints_whole h5 (by simp) rfl
  · have : l = 0 := by omega
    subst this
    have : xs = [] := List.length_eq_zero_iff.1 h1
    subst this; rfl
theorem Own1.same {M M' : Mem} {v : SlV} {xs : List Int} (h : Own1 M v xs) (hg : ∀ o ∈ fpS v, M'.get o = M.get o) : Own1 M' v xs := by
  refine ⟨h.1, fun h0 => ?_⟩
  obtain ⟨o, h3, h4, h5⟩ := h.2 h0
  exact ⟨o, h3, h4, (hg o (by unfold fpS; rw [if_neg (by omega), h3]; simp [fpOf])).trans h5⟩
theorem Own1.lt {M : Mem} {v : SlV} {xs : List Int} (h : Own1 M v xs) : ∀ o ∈ fpS v, o < M.n := bytesAt_lt h.bytes
theorem Own1.upto {M M' : Mem} {v : SlV} {xs : List Int} (h : Own1 M v xs) (hu : M.Upto M') : Own1 M' v xs := h.same (fun o ho => hu.2 o (h.lt o ho))
theorem Clone_F {a : Option (Nat × Nat)} {l : Nat} {c : Cap} {M : Mem} {xs : List Int} (hx : M.ints .u8 a l c = some xs) (hl : l ≤ 2 ^ 47) :
    ∃ M' v, C 40 [.sl a l c] M = some (.sl v.1 v.2.1 v.2.2, M') ∧ M.Upto M' ∧ Own1 M' v xs ∧ (∀ o ∈ fpS v, M.n ≤ o) ∧ (v.2.1 = 0 → v.2.2 = .known 0) := by
  have hE := p40_0_eq C prog.meth a l c M
  have hlx := ints_length hx
  cases a with
  | none =>
    simp only [Option.isNone_none, cond_true] at hE
    have h0 : xs = [] := by
      by_cases h0 : 0 < l
      · obtain ⟨p, hp, _⟩ := (ints_iff.1 hx).2 0 h0
        have := (slPtr_some hp).1; cases this
      · exact List.length_eq_zero_iff.1 (by omega)
    subst h0
    exact ⟨M, (none, 0, .known 0), c40 hE, Mem.Upto.refl M, ⟨rfl, fun h => by simp at h⟩, by simp [fpS], fun _ => rfl⟩
  | some p =>
    simp only [Option.isNone_some, cond_false] at hE
    have u1 := Mem.Upto.alloc M ⟨[], .fixed⟩
    by_cases h0 : 0 < l
    · have hx1 : (M.alloc ⟨[], .fixed⟩).raws 1 (some (M.n, 0)) 0 (.known 0) = some [] := rfl
      rw [appK_more hx1 (ints_raws.1 (ints_upto hx u1)) (by omega) (by omega)] at hE
      refine ⟨_, (some (M.n + 1, 0), 0 + l, .unk 0), c40 hE, u1.alloc_r _, ⟨by simp [hlx], fun _ => ⟨M.n + 1, rfl, rfl, ?_⟩⟩, fun o ho => ?_, fun h => absurd h (by simp; omega)⟩
      · have := get_alloc_self (M.alloc ⟨[], .fixed⟩) ⟨[] ++ xs.map (.int .u8), .grow 1⟩
        simpa using this
      · unfold fpS at ho
        split at ho
        · simp at ho
        · simp only [fpOf, List.mem_singleton] at ho; omega
    · obtain rfl : l = 0 := by omega
      rw [appK_none (Nat.le_refl 0)] at hE
      have : xs = [] := List.length_eq_zero_iff.1 hlx
      subst this
      exact ⟨_, (some (M.n, 0), 0, .known 0), c40 hE, u1, ⟨rfl, fun h => by simp at h⟩, by simp [fpS], fun _ => rfl⟩
section
variable {M : Mem} {v : SlV} {xs : List Int} {n : Nat} {kk : IntKind}
theorem Own1.from (h : Own1 M v xs) (h0 : v.2.1 = 0 → v.2.2 = .known 0) (hn : n ≤ v.2.1) :
    ∃ a2 c2, (∀ {β : Type} (K : Option (Nat × Nat) → Nat → Cap → Option β), slcK false 1 v.1 v.2.1 v.2.2 M (some (.int kk (n : Int))) none none K = K a2 (v.2.1 - n) c2) ∧ M.ints .u8 a2 (v.2.1 - n) c2 = some (xs.drop n) := by
  obtain ⟨a, l, c⟩ := v
  obtain ⟨h1, h2⟩ := h
  simp only at h0 h1 h2 hn ⊢
  by_cases hz : l = 0
  · subst hz
    obtain rfl : n = 0 := by omega
    rw [h0 rfl]
    exact ⟨_, _, fun K => slcK_known_from (Nat.le_refl _) (Nat.le_refl _), by rw [List.length_eq_zero_iff.1 h1]; rfl⟩
  · obtain ⟨o, rfl, rfl, g⟩ := h2 (by omega)
    have hs := fun {β : Type} (K : Option (Nat × Nat) → Nat → Cap → Option β) => slcK_own_from (K := K) (len := l) (l := n) (kl := kk) g (.inl rfl) (by simp; omega) hn
    by_cases e : n = l
    · subst e
      have e2 : (Nat.beq n n && Nat.blt 0 n) = true := by rw [Nat.beq_refl, Mem.blt_iff.2 (by omega)]; rfl
      rw [e2] at hs
      exact ⟨_, _, fun K => (hs K).trans (by rw [cond_true, Nat.sub_self]), by rw [Nat.sub_self, List.drop_eq_nil_of_le (by omega)]; rfl⟩
    · have e2 : (Nat.beq n l && Nat.blt 0 n) = false := by rw [Go.Abs.beq_false e]; rfl
      rw [e2] at hs
      refine ⟨_, _, fun K => (hs K).trans (by rw [cond_false]), ?_⟩
      have := cut_ints g (by simp) hn (by omega)
      rw [Nat.mul_one, this, List.take_of_length_le (by simp; omega)]
end
end Go.Proofs.Ytjcakemgghfflaa.M
namespace Go.Proofs.Ytjcakemgghfflaa.M
open Go.Abs
structure BkS (M : Mem) (v : SlV) (xs : List Int) : Prop where
  len : xs.length = v.2.1
  ex : 0 < v.2.1 → ∃ (o : Nat) (cs : List Int) (k : OKind), v.1 = some (o, 0) ∧ M.get o = some ⟨cs.map (.int .u8), k⟩ ∧ v.2.1 ≤ cs.length ∧ cs.take v.2.1 = xs ∧ ((v.2.2 = .unk 0 ∧ k = .grow 1) ∨ ∃ m, v.2.2 = .known m ∧ v.2.1 ≤ m ∧ k = .fixed)
section
variable {M M' : Mem} {v : SlV} {xs : List Int}
theorem fpS_of {o : Nat} (h : v.1 = some (o, 0)) (h0 : 0 < v.2.1) : fpS v = [o] := by unfold fpS; rw [if_neg (by omega), h]; rfl
theorem BkS.same (h : BkS M v xs) (hg : ∀ o ∈ fpS v, M'.get o = M.get o) : BkS M' v xs := by
  refine ⟨h.len, fun h0 => ?_⟩
  obtain ⟨o, cs, k, e1, e2, e3⟩ := h.ex h0
  exact ⟨o, cs, k, e1, (hg o (by rw [fpS_of e1 h0]; simp)).trans e2, e3⟩
theorem BkS.bytes (h : BkS M v xs) : M.bytesAt v = some xs := by
  by_cases h0 : v.2.1 = 0
  · unfold Mem.bytesAt
    rw [h0, ints_zero]
    have := h.len
    rw [List.length_eq_zero_iff.1 (show xs.length = 0 by omega)]
  · obtain ⟨o, cs, k, e1, e2, e3, e4, e5⟩ := h.ex (by omega)
    unfold Mem.bytesAt
    rw [e1]
    refine ints_of e2 (by rcases e5 with ⟨_, rfl⟩ | ⟨m, _, _, rfl⟩ <;> simp) (by rcases e5 with ⟨e, _⟩ | ⟨m, e, _⟩ <;> rw [e] <;> rfl) (by simpa using e3) (by rw [List.drop_zero, ← List.map_take, e4])
theorem BkS.lt (h : BkS M v xs) : ∀ o ∈ fpS v, o < M.n := bytesAt_lt h.bytes
theorem BkS.own (h : Own1 M v xs) : BkS M v xs := ⟨h.1, fun h0 => by
  obtain ⟨o, e1, e2, g⟩ := h.2 h0
  exact ⟨o, xs, _, e1, g, by rw [h.1]; exact Nat.le_refl _, List.take_of_length_le (by rw [h.1]; exact Nat.le_refl _), .inl ⟨e2, rfl⟩⟩⟩
theorem BkS.cut {n : Nat} {kk : IntKind} (h : BkS M v xs) (h0 : 0 < v.2.1) (hn : n ≤ v.2.1) :
    (∀ {β : Type} (K : Option (Nat × Nat) → Nat → Cap → Option β), slcK false 1 v.1 v.2.1 v.2.2 M none (some (.int kk (n : Int))) none K = K v.1 n v.2.2) ∧ BkS M (v.1, n, v.2.2) (xs.take n) ∧ (∀ o ∈ fpS (v.1, n, v.2.2), o ∈ fpS v) := by
  obtain ⟨o, cs, k, e1, e2, e3, e4, e5⟩ := h.ex h0
  have hl := h.len
  refine ⟨fun K => ?_, ⟨by simp; omega, fun _ => ⟨o, cs, k, e1, e2, Nat.le_trans hn e3, by rw [← e4, List.take_take, Nat.min_eq_left hn], ?_⟩⟩, fun q hq => ?_⟩
  · rw [e1]
    rcases e5 with ⟨e, rfl⟩ | ⟨m, e, hm, rfl⟩
    · rw [e]; exact slcK_own_to e2 (.inl rfl) (by simp; omega)
    · rw [e, slcK_known_to (Nat.le_trans hn hm)]
      cases Nat.beq m 0 <;> rfl
  · rcases e5 with ⟨e, rfl⟩ | ⟨m, e, hm, rfl⟩
    · exact .inl ⟨e, rfl⟩
    · exact .inr ⟨m, e, Nat.le_trans hn hm, rfl⟩
  · rw [fpS_of e1 h0]
    unfold fpS at hq
    split at hq
    · simp at hq
    · simpa [e1, fpOf] using hq
theorem BkS.put {i : Nat} {y : Int} (h : BkS M v xs) (hi : i < v.2.1) : ∃ o M', slPtr v.1 v.2.2 = some (o, 0) ∧ M.st o i [.int .u8 y] = some M' ∧ BkS M' v (xs.set i y) ∧ M'.n = M.n ∧ Mem.But (· = o) M M' ∧ o ∈ fpS v := by
  obtain ⟨o, cs, k, e1, e2, e3, e4, e5⟩ := h.ex (by omega)
  have hl := h.len
  have hm : k.mine = true := by rcases e5 with ⟨_, rfl⟩ | ⟨m, _, _, rfl⟩ <;> rfl
  have s1 := st_mine (i := i) (vs := [.int .u8 y]) e2 hm (by simp; omega)
  rw [overL_one, ← List.map_set] at s1
  refine ⟨o, _, ?_, s1, ⟨by rw [List.length_set]; exact hl, fun _ => ⟨o, cs.set i y, k, e1, get_put_self (Mem.get_lt e2), by rw [List.length_set]; exact e3, ?_, e5⟩⟩, rfl, Mem.But.put _ _ _, by rw [fpS_of e1 (by omega)]; simp⟩
  · rw [e1]; rcases e5 with ⟨e, _⟩ | ⟨m, e, _⟩ <;> rw [e] <;> rfl
  · rw [List.take_set, e4]
end
end Go.Proofs.Ytjcakemgghfflaa.M
namespace Go.Proofs.Ytjcakemgghfflaa.M
open Go.Abs
structure IsP (M : Mem) (p o : Nat) (B : List Int) (a t mv : Nat) : Prop where
  gp : M.get p = some ⟨[.bool true, .sl (some (o, 0)) (a + B.length + t) (.known (a + B.length + t)), .int .i64 (a : Int), .int .i64 ((a + B.length : Nat) : Int), .int .i64 (mv : Int)], .fixed⟩
  go : ∃ xs ys, M.get o = some ⟨(xs ++ (B ++ ys)).map (.int .u8), .fixed⟩ ∧ xs.length = a ∧ ys.length = t
  ne : p ≠ o
  sz : B.length ≤ 2048
  all : a + B.length + t ≤ 2560
section
variable {M M' : Mem} {p o : Nat} {B : List Int} {a t mv : Nat}
theorem IsP.same (h : IsP M p o B a t mv) (h1 : M'.get p = M.get p) (h2 : M'.get o = M.get o) : IsP M' p o B a t mv := ⟨h1.trans h.gp, by rw [h2]; exact h.go, h.ne, h.sz, h.all⟩
theorem IsP.lt (h : IsP M p o B a t mv) : p < M.n ∧ o < M.n := by
  obtain ⟨xs, ys, g, _⟩ := h.go
  exact ⟨Mem.get_lt h.gp, Mem.get_lt g⟩
theorem IsP.upto (h : IsP M p o B a t mv) (hu : M.Upto M') : IsP M' p o B a t mv := h.same (hu.2 _ h.lt.1) (hu.2 _ h.lt.2)
theorem IsP.ld (h : IsP M p o B a t mv) : M.ldB p 0 = some true ∧ M.ldL p 1 = some (some (o, 0), a + B.length + t, .known (a + B.length + t)) ∧ M.ldI .i64 p 2 = some (a : Int) ∧ M.ldI .i64 p 3 = some ((a + B.length : Nat) : Int) ∧ M.ldI .i64 p 4 = some (mv : Int) := by
  have g := h.gp
  refine ⟨?_, ?_, ldI_ld.2 (by rw [ld_fix g]; rfl), ldI_ld.2 (by rw [ld_fix g]; rfl), ldI_ld.2 (by rw [ld_fix g]; rfl)⟩
  · unfold Mem.ldB; rw [ld_fix g]; rfl
  · unfold Mem.ldL; rw [ld_fix g]; rfl
theorem pnone_C (h : IsP M p o B a t mv) : C 51 [.ptr (some (p, 0))] M = some (.bool false, M) := by
  have hE := p51_0_eq C prog.meth (some (p, 0)) M
  simp only [int?_int, rvs, Int.reduceBEq, Int.reduceBNe, Int.cast_ofNat_Int, Nat.zero_add, h.ld.1] at hE
  exact c51 hE
theorem PLen_C (h : IsP M p o B a t mv) : C 50 [.ptr (some (p, 0))] M = some (.int .i64 (B.length : Int), M) := by
  have hE := p50_0_eq C prog.meth (some (p, 0)) M
  have h1 := h.sz
  have h2 := h.all
  have hw : IntKind.wrap .i64 (((a + B.length : Nat) : Int) - (a : Int)) = (B.length : Int) := by rw [wrap_i64 (by omega) (by omega)]; omega
  simp only [int?_int, rvs, Int.reduceBEq, Int.reduceBNe, Int.cast_ofNat_Int, pnone_C h, Nat.zero_add, h.ld.2.2.1, h.ld.2.2.2.1, hw] at hE
  exact c50 hE
theorem PData_C (h : IsP M p o B a t mv) : ∃ i, C 36 [.ptr (some (p, 0))] M = some (.sl (some (o, i)) B.length (.known B.length), M) ∧ (0 < B.length → i = a) ∧ M.ints .u8 (some (o, i)) B.length (.known B.length) = some B := by
  have hE := p36_0_eq C prog.meth (some (p, 0)) M
  obtain ⟨xs, ys, g, hx, hy⟩ := h.go
  have h1 : M.room 1 (some (o, 0)) (.known (a + B.length + t)) (a + B.length) = true := by
    unfold Mem.room; exact ble_iff.2 (by omega)
  have h2 := fun {β : Type} (K : Option (Nat × Nat) → Nat → Cap → Option β) => slcK_3 (M := M) (size := 1) (a := some (o, 0)) (len := a + B.length + t) (c := .known (a + B.length + t)) (l := a) (h := a + B.length) (m := a + B.length) (kl := .i64) (kh := .i64) (km := .i64) (K := K) h1 (by omega) (Nat.le_refl _)
  have e1 : a + B.length - a = B.length := by omega
  rw [e1] at h2
  simp only [int?_int, rvs, Int.reduceBEq, Int.reduceBNe, Int.cast_ofNat_Int, pnone_C h, Nat.zero_add, h.ld.2.1, h.ld.2.2.1, h.ld.2.2.2.1, h2] at hE
  by_cases h0 : B.length = 0
  · have e2 : Nat.beq (a + B.length) a = true := by rw [h0, Nat.add_zero]; exact Nat.beq_refl a
    rw [e2, cond_true] at hE
    exact ⟨0, c36 hE, by omega, by rw [h0, ints_zero, List.length_eq_zero_iff.1 h0]⟩
  · have e2 : Nat.beq (a + B.length) a = false := Abs.beq_false (by omega)
    rw [e2, cond_false] at hE
    refine ⟨a, by simpa [adv] using c36 hE, fun _ => rfl, ?_⟩
    exact ints_mid g (by simp) (fun _ => by rw [hx]; rfl)
theorem PBytes_F (h : IsP M p o B a t mv) : ∃ M' v, C 38 [.ptr (some (p, 0))] M = some (.sl v.1 v.2.1 v.2.2, M') ∧ M.Upto M' ∧ Own1 M' v B ∧ (∀ o ∈ fpS v, M.n ≤ o) ∧ (v.2.1 = 0 → v.2.2 = .known 0) := by
  obtain ⟨i, c1, _, c2⟩ := PData_C h
  have h1 := h.sz
  obtain ⟨M', v, c3, u, ow, f, z⟩ := Clone_F c2 (by omega)
  have hE := p38_0_eq C prog.meth (some (p, 0)) M
  simp only [int?_int, rvs, Int.reduceBEq, Int.reduceBNe, Int.cast_ofNat_Int, c1, c3] at hE
  exact ⟨M', v, c38 hE, u, ow, f, z⟩
theorem PBytes_C (h : IsP M p o B a t mv) : ∃ M' v, C 38 [.ptr (some (p, 0))] M = some (.sl v.1 v.2.1 v.2.2, M') ∧ M.Upto M' ∧ Own1 M' v B ∧ (∀ o ∈ fpS v, M.n ≤ o) := by
  obtain ⟨M', v, q1, q2, q3, q4, _⟩ := PBytes_F h
  exact ⟨M', v, q1, q2, q3, q4⟩
end
theorem Play_C {M : Mem} {p : Nat} {x y z : AVal} {mv : Nat} {ba : Option (Nat × Nat)} {bl : Nat} {bc : Cap} {xs : List Int} {hd bf bh tl : Nat} (hp : M.get p = some ⟨[.bool true, x, y, z, .int .i64 (mv : Int)], .fixed⟩) (hx : M.ints .u8 ba bl bc = some xs) (h1 : bf + bl + bh ≤ 2048) (h2 : hd + (bf + bl + bh) + tl ≤ 2560) :
    ∃ M', C 56 [.ptr (some (p, 0)), .sl ba bl bc, .int .i64 (hd : Int), .int .i64 (bf : Int), .int .i64 (bh : Int), .int .i64 (tl : Int)] M = some (.tup [], M') ∧
      IsP M' p M.n (List.replicate bf 0 ++ xs ++ List.replicate bh 0) hd tl mv ∧ M'.n = M.n + 1 ∧ Mem.But (· = p) M M' := by
  have hE := p56_0_eq C prog.meth (some (p, 0)) ba bl bc hd bf bh tl M
  have hxl := ints_length hx
  have hpl := Mem.get_lt hp
  have w1 : IntKind.wrap .i64 ((hd : Int) + (bf : Int)) = ((hd + bf : Nat) : Int) := by rw [wrap_i64 (by omega) (by omega)]; rfl
  have w2 : IntKind.wrap .i64 (((hd + bf : Nat) : Int) + (bl : Int)) = ((hd + bf + bl : Nat) : Int) := by rw [wrap_i64 (by omega) (by omega)]; rfl
  have w3 : IntKind.wrap .i64 (((hd + bf + bl : Nat) : Int) + (bh : Int)) = ((hd + bf + bl + bh : Nat) : Int) := by rw [wrap_i64 (by omega) (by omega)]; rfl
  have w4 : IntKind.wrap .i64 (((hd + bf + bl + bh : Nat) : Int) + (tl : Int)) = ((hd + bf + bl + bh + tl : Nat) : Int) := by rw [wrap_i64 (by omega) (by omega)]; rfl
  have w5 : IntKind.wrap .i64 (((hd + bf + bl + bh + tl : Nat) : Int) - (tl : Int)) = ((hd + bf + bl + bh : Nat) : Int) := by rw [wrap_i64 (by omega) (by omega)]; omega
  have b0 : (0 : Int) ≤ ((hd + bf + bl + bh + tl : Nat) : Int) := by omega
  have b1 : Nat.ble (hd + bf + bl + bh + tl) (hd + bf + bl + bh + tl) = true := ble_iff.2 (Nat.le_refl _)
  have b2 : Nat.ble (1 * (hd + bf + bl + bh + tl)) (2 ^ 47) = true := ble_iff.2 (by omega)
  simp only [w1, w2, w3, w4, b0, Int.toNat_natCast, b1, b2, w5, Bool.and_self, decide_true, cond_true] at hE
  have hu := Mem.Upto.alloc M ⟨replZ [.int .u8 0] (hd + bf + bl + bh + tl), .fixed⟩
  have hg0 := get_alloc_self M ⟨replZ [.int .u8 0] (hd + bf + bl + bh + tl), .fixed⟩
  have hx1 := ints_upto hx hu
  have hp1 := hu.get hp
  have hn1 : (M.alloc ⟨replZ [.int .u8 0] (hd + bf + bl + bh + tl), .fixed⟩).n = M.n + 1 := rfl
  have er : replZ [AVal.int .u8 0] (hd + bf + bl + bh + tl) = (List.replicate (hd + bf) (0 : Int) ++ (List.replicate bl (0 : Int) ++ List.replicate (bh + tl) (0 : Int))).map (.int .u8) := by
    rw [replZ_int, List.replicate_append_replicate, List.replicate_append_replicate, show hd + bf + bl + bh + tl = hd + bf + (bl + (bh + tl)) from by omega]
  rw [er] at hE hu hg0 hx1 hp1 hn1
  generalize M.alloc ⟨(List.replicate (hd + bf) (0 : Int) ++ (List.replicate bl (0 : Int) ++ List.replicate (bh + tl) (0 : Int))).map (.int .u8), .fixed⟩ = M1 at hE hu hg0 hx1 hp1 hn1
  rw [slcK_known_from (l := hd + bf) (n := hd + bf + bl + bh + tl) (by omega) (Nat.le_refl _)] at hE
  obtain ⟨M2, k1, k2, k3, k4⟩ := copyK_part (kk := .u8) (M := M1) (o := M.n) (k := .fixed) (pre := List.replicate (hd + bf) 0) (mid := List.replicate bl 0) (post := List.replicate (bh + tl) 0) (a := cond (Nat.beq (hd + bf + bl + bh + tl) (hd + bf)) (some (M.n, 0)) (adv (some (M.n, 0)) ((hd + bf) * 1))) (c := .known (hd + bf + bl + bh + tl - (hd + bf))) (len := hd + bf + bl + bh + tl - (hd + bf)) hg0 rfl hx1 (by simp) (fun h0 => by
    rw [Abs.beq_false (by omega), cond_false]; simp [adv, slPtr]) (by omega)
  rw [k1] at hE
  have hp2 : M2.get p = some ⟨[.bool true, x, y, z, .int .i64 (mv : Int)], .fixed⟩ := k4.get hp1 (by omega)
  have s1 := st_fix (i := 1) (vs := [.sl (some (M.n, 0)) (hd + bf + bl + bh + tl) (.known (hd + bf + bl + bh + tl))]) hp2 (by simp)
  rw [overL_one] at s1
  have g3 : (M2.put p ⟨[AVal.bool true, x, y, z, .int .i64 (mv : Int)].set 1 (.sl (some (M.n, 0)) (hd + bf + bl + bh + tl) (.known (hd + bf + bl + bh + tl))), .fixed⟩).get p = some ⟨[.bool true, .sl (some (M.n, 0)) (hd + bf + bl + bh + tl) (.known (hd + bf + bl + bh + tl)), y, z, .int .i64 (mv : Int)], .fixed⟩ := get_put_self (by omega)
  have b3 := Mem.But.put M2 p ⟨[AVal.bool true, x, y, z, .int .i64 (mv : Int)].set 1 (.sl (some (M.n, 0)) (hd + bf + bl + bh + tl) (.known (hd + bf + bl + bh + tl))), .fixed⟩
  have n3 : (M2.put p ⟨[AVal.bool true, x, y, z, .int .i64 (mv : Int)].set 1 (.sl (some (M.n, 0)) (hd + bf + bl + bh + tl) (.known (hd + bf + bl + bh + tl))), .fixed⟩).n = M2.n := rfl
  generalize M2.put p ⟨[AVal.bool true, x, y, z, .int .i64 (mv : Int)].set 1 (.sl (some (M.n, 0)) (hd + bf + bl + bh + tl) (.known (hd + bf + bl + bh + tl))), .fixed⟩ = M3 at s1 g3 b3 n3
  have s2 := st_fix (i := 2) (vs := [.int .i64 (hd : Int)]) g3 (by simp)
  rw [overL_one] at s2
  have g4 : (M3.put p ⟨[AVal.bool true, .sl (some (M.n, 0)) (hd + bf + bl + bh + tl) (.known (hd + bf + bl + bh + tl)), y, z, .int .i64 (mv : Int)].set 2 (.int .i64 (hd : Int)), .fixed⟩).get p = some ⟨[.bool true, .sl (some (M.n, 0)) (hd + bf + bl + bh + tl) (.known (hd + bf + bl + bh + tl)), .int .i64 (hd : Int), z, .int .i64 (mv : Int)], .fixed⟩ := get_put_self (by omega)
  have b4 := Mem.But.put M3 p ⟨[AVal.bool true, .sl (some (M.n, 0)) (hd + bf + bl + bh + tl) (.known (hd + bf + bl + bh + tl)), y, z, .int .i64 (mv : Int)].set 2 (.int .i64 (hd : Int)), .fixed⟩
  have n4 : (M3.put p ⟨[AVal.bool true, .sl (some (M.n, 0)) (hd + bf + bl + bh + tl) (.known (hd + bf + bl + bh + tl)), y, z, .int .i64 (mv : Int)].set 2 (.int .i64 (hd : Int)), .fixed⟩).n = M3.n := rfl
  generalize M3.put p ⟨[AVal.bool true, .sl (some (M.n, 0)) (hd + bf + bl + bh + tl) (.known (hd + bf + bl + bh + tl)), y, z, .int .i64 (mv : Int)].set 2 (.int .i64 (hd : Int)), .fixed⟩ = M4 at s2 g4 b4 n4
  have s3 := st_fix (i := 3) (vs := [.int .i64 ((hd + bf + bl + bh : Nat) : Int)]) g4 (by simp)
  rw [overL_one] at s3
  have b5 := Mem.But.put M4 p ⟨[AVal.bool true, .sl (some (M.n, 0)) (hd + bf + bl + bh + tl) (.known (hd + bf + bl + bh + tl)), .int .i64 (hd : Int), z, .int .i64 (mv : Int)].set 3 (.int .i64 ((hd + bf + bl + bh : Nat) : Int)), .fixed⟩
  simp only [Option.bind_some, Nat.zero_add, s1, s2, s3] at hE
  have el : (List.replicate bf (0 : Int) ++ xs ++ List.replicate bh 0).length = bf + bl + bh := by simp [hxl]; omega
  have bb := (b3.trans b4 (fun _ _ h => h)).trans b5 (fun _ _ h => h)
  refine ⟨_, c56 hE, ⟨?_, ⟨List.replicate hd 0, List.replicate tl 0, ?_, by simp, by simp⟩, by omega, by omega, by omega⟩, by simp; omega, ⟨by simp; omega, fun q hq hne => by rw [bb.2 q (by omega) hne, k4.2 q (by omega) (by omega), hu.2 q hq]⟩⟩
  · rw [get_put_self (by omega), el]
    have e1 : hd + (bf + bl + bh) + tl = hd + bf + bl + bh + tl := by omega
    have e2 : hd + (bf + bl + bh) = hd + bf + bl + bh := by omega
    rw [e1, e2]; rfl
  · rw [bb.2 _ (by omega) (by omega), k2]
    congr 2
    rw [← List.replicate_append_replicate (n := hd), ← List.replicate_append_replicate (n := bh)]
    simp only [List.append_assoc]
theorem PNew_C {M : Mem} {ba : Option (Nat × Nat)} {bl : Nat} {bc : Cap} {xs : List Int} {hd tl : Nat} (hx : M.ints .u8 ba bl bc = some xs) (h1 : bl ≤ 2048) (h2 : hd ≤ 256) (h3 : tl ≤ 256) :
    ∃ M', C 48 [.sl ba bl bc, .int .i64 (hd : Int), .int .i64 (tl : Int)] M = some (.tup [.ptr (some (M.n, 0)), .int .i64 0], M') ∧ M.Upto M' ∧ IsP M' M.n (M.n + 1) xs hd tl 0 := by
  have hE := p48_0_eq C prog.meth ba bl bc hd tl M
  have e1 : ¬ ((bl : Int) > 2048) := by omega
  have e2 : ¬ ((hd : Int) < 0) := by omega
  have e3 : ¬ ((hd : Int) > 256) := by omega
  have e4 : ¬ ((tl : Int) < 0) := by omega
  have e5 : ¬ ((tl : Int) > 256) := by omega
  simp only [e1, e2, e3, e4, e5, decide_false, cond_false] at hE
  rw [p48_1_eq] at hE
  have hu := Mem.Upto.alloc M ⟨[.bool true, .sl none 0 (.known 0), .int .i64 0, .int .i64 0, .int .i64 0], .fixed⟩
  have hg := get_alloc_self M ⟨[.bool true, .sl none 0 (.known 0), .int .i64 0, .int .i64 0, .int .i64 0], .fixed⟩
  have hx1 := ints_upto hx hu
  have hn : (M.alloc ⟨[.bool true, .sl none 0 (.known 0), .int .i64 0, .int .i64 0, .int .i64 0], .fixed⟩).n = M.n + 1 := rfl
  obtain ⟨M', c1, q1, n1, b1⟩ := Play_C (hd := hd) (bf := 0) (bh := 0) (tl := tl) (mv := 0) hg hx1 (by omega) (by omega)
  rw [hn] at q1
  have c1' : C 56 [.ptr (some (M.n, 0)), .sl ba bl bc, .int .i64 (hd : Int), .int .i64 0, .int .i64 0, .int .i64 (tl : Int)] (M.alloc ⟨[.bool true, .sl none 0 (.known 0), .int .i64 0, .int .i64 0, .int .i64 0], .fixed⟩) = some (.tup [], M') := c1
  simp only [int?_int, rvs, Int.reduceBEq, Int.reduceBNe, Int.cast_ofNat_Int, c1'] at hE
  refine ⟨M', c48 hE, ⟨by omega, fun o ho => by rw [b1.2 o (by omega) (by omega), hu.2 o ho]⟩, ?_⟩
  simpa using q1
def tailB (B : List Int) (n : Int) : List Int := if 0 ≤ n then B ++ List.replicate n.toNat 0 else B.take (B.length - (-n).toNat)
section
variable {M M' : Mem} {p o : Nat} {B : List Int} {a t mv : Nat}
end
end Go.Proofs.Ytjcakemgghfflaa.M
set_option maxRecDepth 100000
namespace Go.Proofs.Ytjcakemgghfflaa.M
open Go.Abs
def askE (len : Nat) (at_ size : Int) : Int := if size < 1 then 2 else if size > 8 then 2 else if at_ < 0 then 20 else if at_ > len - size then 20 else 0
def ldF (v c : Int) : Int := IntKind.wrap .u64 ((BitVec.ofInt (IntKind.bits .u64) (IntKind.wrap .u64 (v * 2 ^ Nat.min 8 (IntKind.bits .u64))) ||| BitVec.ofInt (IntKind.bits .u64) (IntKind.wrap .u64 c)).toNat)
section
variable {M M' : Mem} {p o : Nat} {B : List Int} {a t mv : Nat}
theorem Pasked_C (h : IsP M p o B a t mv) (at_ size : Int) : C 55 [.ptr (some (p, 0)), .int .i64 at_, .int .i64 size] M = some (.int .i64 (askE B.length at_ size), M) := by
  have hE := p55_0_eq C prog.meth (some (p, 0)) at_ size M
  have h1 := h.sz
  simp only [int?_int, rvs, Int.reduceBEq, Int.reduceBNe, Int.cast_ofNat_Int, pnone_C h] at hE
  refine c55 (hE.trans ?_)
  have hE1 := p55_1_eq C prog.meth (some (p, 0)) at_ size M
  refine hE1.trans ?_
  unfold askE
  by_cases h2 : size < 1
  · simp [h2]
  by_cases h3 : size > 8
  · simp [h2, h3]
  by_cases h4 : at_ < 0
  · simp [h2, h3, h4]
  have hw : IntKind.wrap .i64 ((B.length : Int) - size) = (B.length : Int) - size := wrap_i64 (by omega) (by omega)
  simp only [int?_int, rvs, Int.reduceBEq, Int.reduceBNe, Int.cast_ofNat_Int, h2, h3, h4, PLen_C h, hw]
  by_cases h5 : at_ > (B.length : Int) - size
  · simp [h2, h3, h4, h5]
  · simp [h2, h3, h4, h5]
theorem askE_zero {len : Nat} {at_ size : Int} (h : askE len at_ size = 0) : 1 ≤ size ∧ size ≤ 8 ∧ 0 ≤ at_ ∧ at_ + size ≤ len := by
  unfold askE at h
  split at h
  · omega
  · split at h
    · omega
    · split at h
      · omega
      · split at h
        · omega
        · omega
theorem load_loop {sa : Option (Nat × Nat)} {l : Nat} {c : Cap} {xs : List Int} (hx : M.ints .u8 sa l c = some xs) (hl : l < 2 ^ 62) : ∀ (d j : Nat) (v : Int), j + d = l →
    p49_1 C prog.meth v sa l c (l : Int) j M = some (.tup [.int .u64 ((xs.drop j).foldl ldF v), .int .i64 0], M) := by
  obtain ⟨lx, gx⟩ := ints_iff.1 hx
  intro d
  induction d with
  | zero =>
    intro j v hj
    have hE := p49_1_eq C prog.meth v sa l c (l : Int) j M
    have h1 : ¬ ((j : Int) < (l : Int)) := by omega
    simp only [int?_int, rvs, Int.reduceBEq, Int.reduceBNe, Int.cast_ofNat_Int, h1] at hE
    rw [hE, List.drop_eq_nil_of_le (by omega)]; rfl
  | succ d ih =>
    intro j v hj
    have hE := p49_1_eq C prog.meth v sa l c (l : Int) j M
    have h1 : (j : Int) < (l : Int) := by omega
    have h0 : (0 : Int) ≤ (j : Int) := by omega
    have h2 : Nat.blt j l = true := Mem.blt_iff.2 (by omega)
    obtain ⟨q, hq, hqv⟩ := gx j (by omega)
    rw [List.getElem?_eq_getElem (by omega)] at hqv
    have hw : IntKind.wrap .i64 ((j : Int) + 1) = ((j + 1 : Nat) : Int) := by rw [wrap_i64 (by omega) (by omega)]; rfl
    simp only [h1, h0, decide_true, cond_true, Int.toNat_natCast, h2, hq, Option.bind_some, Nat.mul_one, hqv, hw] at hE
    rw [List.drop_eq_getElem_cons (by omega), List.foldl_cons]
    exact hE.trans (ih (j + 1) (ldF v xs[j]) (by omega))
theorem PPart (h : IsP M p o B a t mv) {k n : Nat} (hk : k + n ≤ B.length) (hn : 0 < n) : ∃ i, C 36 [.ptr (some (p, 0))] M = some (.sl (some (o, i)) B.length (.known B.length), M) ∧
    (∀ {β : Type} (K : Option (Nat × Nat) → Nat → Cap → Option β), slcK false 1 (some (o, i)) B.length (.known B.length) M (some (.int .i64 (k : Int))) (some (.int .i64 ((k + n : Nat) : Int))) none K = K (some (o, a + k)) n (.known (B.length - k))) := by
  obtain ⟨i, c1, hi, c2⟩ := PData_C h
  have hi := hi (by omega)
  subst hi
  refine ⟨i, c1, fun K => ?_⟩
  rw [slcK_known (l := k) (h := k + n) (by omega) (by omega), Abs.beq_false (by omega), cond_false, show k + n - k = n from by omega]
  simp [adv]
theorem PLoad_C (h : IsP M p o B a t mv) (at_ size : Int) :
    (askE B.length at_ size ≠ 0 ∧ C 49 [.ptr (some (p, 0)), .int .i64 at_, .int .i64 size] M = some (.tup [.int .u64 0, .int .i64 (askE B.length at_ size)], M)) ∨
    (askE B.length at_ size = 0 ∧ C 49 [.ptr (some (p, 0)), .int .i64 at_, .int .i64 size] M = some (.tup [.int .u64 (((B.drop at_.toNat).take size.toNat).foldl ldF 0), .int .i64 0], M)) := by
  have hE := p49_0_eq C prog.meth (some (p, 0)) at_ size M
  simp only [int?_int, rvs, Int.reduceBEq, Int.reduceBNe, Int.cast_ofNat_Int, Pasked_C h at_ size] at hE
  by_cases he : askE B.length at_ size = 0
  rotate_left
  · have : (askE B.length at_ size != 0) = true := by simp [he]
    rw [this, cond_true] at hE
    exact .inl ⟨he, c49 hE⟩
  refine .inr ⟨he, ?_⟩
  have hb := askE_zero he
  have hsz := h.sz
  have : (askE B.length at_ size != 0) = false := by simp [he]
  rw [this, cond_false] at hE
  obtain ⟨k, rfl⟩ : ∃ k : Nat, at_ = (k : Int) := ⟨at_.toNat, by omega⟩
  obtain ⟨n, rfl⟩ : ∃ n : Nat, size = (n : Int) := ⟨size.toNat, by omega⟩
  obtain ⟨i, c1, c2⟩ := PPart h (k := k) (n := n) (by omega) (by omega)
  have hw : IntKind.wrap .i64 ((k : Int) + (n : Int)) = ((k + n : Nat) : Int) := by rw [wrap_i64 (by omega) (by omega)]; rfl
  obtain ⟨xs, ys, g, hx, hy⟩ := h.go
  have hi : M.ints .u8 (some (o, a + k)) n (.known (B.length - k)) = some ((B.drop k).take n) := by
    have g' : M.get o = some ⟨((xs ++ B.take k) ++ ((B.drop k).take n ++ (B.drop (k + n) ++ ys))).map (.int .u8), .fixed⟩ := by
      rw [g]; congr 3
      rw [← List.drop_drop, ← List.append_assoc ((B.drop k).take n), List.take_append_drop, List.append_assoc, ← List.append_assoc (B.take k), List.take_append_drop]
    have := ints_mid (a := some (o, a + k)) (c := .known (B.length - k)) g' (by simp) (fun _ => by simp [slPtr, hx]; omega)
    have hl : ((B.drop k).take n).length = n := by simp; omega
    rw [hl] at this
    exact this
  have hlp := load_loop (c := .known (B.length - k)) hi (by omega) n 0 0 (by omega)
  rw [List.drop_zero] at hlp
  simp only [int?_int, rvs, Int.reduceBEq, Int.reduceBNe, Int.cast_ofNat_Int, c1, hw, c2] at hE
  exact c49 (hE.trans hlp)
end
end Go.Proofs.Ytjcakemgghfflaa.M
set_option maxRecDepth 100000
namespace Go.Proofs.Ytjcakemgghfflaa.M
open Go.Abs
structure IsRP (M : Mem) (m : Nat) (v : SlV) (B : List Int) (a t mv : Nat) : Prop where
  gm : M.get m = some ⟨[.sl v.1 v.2.1 v.2.2, .int .i64 (a : Int), .int .i64 (t : Int), .int .i64 (mv : Int)], .fixed⟩
  bs : BkS M v B
  ne : m ∉ fpS v
  z : v.2.1 = 0 → v.2.2 = .known 0
  sz : B.length ≤ 2048
  ra : a ≤ 4096 ∧ t ≤ 4096
section
variable {M M' : Mem} {m : Nat} {v : SlV} {B : List Int} {a t mv : Nat}
theorem IsRP.same (h : IsRP M m v B a t mv) (h1 : M'.get m = M.get m) (h2 : ∀ o ∈ fpS v, M'.get o = M.get o) : IsRP M' m v B a t mv := ⟨h1.trans h.gm, h.bs.same h2, h.ne, h.z, h.sz, h.ra⟩
theorem IsRP.lt (h : IsRP M m v B a t mv) : m < M.n ∧ ∀ o ∈ fpS v, o < M.n := ⟨Mem.get_lt h.gm, h.bs.lt⟩
theorem IsRP.upto (h : IsRP M m v B a t mv) (hu : M.Upto M') : IsRP M' m v B a t mv := h.same (hu.2 _ h.lt.1) (fun o ho => hu.2 o (h.lt.2 o ho))
theorem IsRP.ld (h : IsRP M m v B a t mv) : M.ldL m 0 = some v ∧ M.ldI .i64 m 1 = some (a : Int) ∧ M.ldI .i64 m 2 = some (t : Int) ∧ M.ldI .i64 m 3 = some (mv : Int) := by
  have g := h.gm
  refine ⟨?_, ldI_ld.2 (by rw [ld_fix g]; rfl), ldI_ld.2 (by rw [ld_fix g]; rfl), ldI_ld.2 (by rw [ld_fix g]; rfl)⟩
  unfold Mem.ldL; rw [ld_fix g]; rfl
end
end Go.Proofs.Ytjcakemgghfflaa.M
namespace Go.Proofs.Ytjcakemgghfflaa.M
open Go.Abs
def wfB (B : List Int) : Prop := ∀ c ∈ B, 0 ≤ c ∧ c < 256
theorem wfB.set {B : List Int} (h : wfB B) (i : Nat) {y : Int} (hy : 0 ≤ y ∧ y < 256) : wfB (B.set i y) := fun c hc => by
  rcases List.mem_or_eq_of_mem_set hc with h1 | h1
  · exact h c h1
  · exact h1 ▸ hy
theorem wfB.tail {B : List Int} (h : wfB B) (n : Int) : wfB (tailB B n) := fun c hc => by
  unfold tailB at hc
  split at hc
  · rcases List.mem_append.1 hc with h1 | h1
    · exact h c h1
    · have := List.eq_of_mem_replicate h1; omega
  · exact h c (List.mem_of_mem_take hc)
theorem wfB.take {B : List Int} (h : wfB B) (n : Nat) : wfB (B.take n) := fun c hc => h c (List.mem_of_mem_take hc)
theorem wfB.drop {B : List Int} (h : wfB B) (n : Nat) : wfB (B.drop n) := fun c hc => h c (List.mem_of_mem_drop hc)
end Go.Proofs.Ytjcakemgghfflaa.M
