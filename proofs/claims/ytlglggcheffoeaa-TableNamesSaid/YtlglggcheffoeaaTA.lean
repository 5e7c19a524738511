/- The package table: Check, Find; the document's. -/
import Derived.Test.YtlglggcheffoeaaT
import Derived.Test.YtlglggcheffoeaaXLib4
import Derived.Test.YtlglggcheffoeaaXLib7
import Derived.Test.YtlglggcheffoeaaXLaw
import Derived.Test.YtlglggcheffoeaaXFc
set_option linter.unusedVariables false
set_option linter.unusedSimpArgs false
set_option linter.unnecessarySimpa false
set_option maxRecDepth 100000
namespace Go.Proofs.Ytlglggcheffoeaa.M
open Go.Abs Go.RowKit

abbrev Pr := Int × Int
def encP (p : Pr) : List AVal := [.int .u64 p.1, .int .u64 p.2]
theorem encP2 : Enc 2 encP := fun _ => rfl
section
variable {M M' : Mem} {a a' : Option (Nat × Nat)} {l l' : Nat} {c c' : Cap} {xs ys : List Pr}
theorem pr_ld (h : Sl M 2 encP a l c xs) {i : Nat} (hi : i < l) : ∃ p, slPtr a c = some p ∧ M.ldI .u64 p.1 (p.2 + i * 2) = some (xs[i]'(by have := h.2; omega)).1 ∧ M.ldI .u64 p.1 (p.2 + i * 2 + 1) = some (xs[i]'(by have := h.2; omega)).2 := by
  obtain ⟨p, h1, h2⟩ := h.get encP2 (by omega) hi
  have h3 := h2 0 (by omega)
  have h4 := h2 1 (by omega)
  refine ⟨p, h1, ldI_ld.2 ?_, ldI_ld.2 ?_⟩
  · rw [Nat.add_zero] at h3; exact h3
  · rw [Nat.add_assoc]; exact h4
/-- Keys go up. -/
def Inc (xs : List Pr) : Prop := ∀ i (h : i + 1 < xs.length), (xs[i]'(by omega)).1 < (xs[i + 1]'h).1
theorem Inc.lt (h : Inc xs) : ∀ (d i : Nat) (hj : i + d + 1 < xs.length), (xs[i]'(by omega)).1 < (xs[i + d + 1]'hj).1
  | 0, i, hj => h i hj
  | d + 1, i, hj => Int.lt_trans (Inc.lt h d i (by omega)) (h (i + d + 1) hj)
theorem Inc.lt' (h : Inc xs) {i j : Nat} (hij : i < j) (hj : j < xs.length) : (xs[i]'(by omega)).1 < (xs[j]'hj).1 := by
  obtain ⟨d, rfl⟩ : ∃ d, j = i + d + 1 := ⟨j - i - 1, by omega⟩
  exact h.lt d i hj
open Classical in
noncomputable def chk (xs : List Pr) : Int := if xs.length > 64 then 3 else if Inc xs then 0 else 190
theorem chk_zero (h : chk xs = 0) : xs.length ≤ 64 ∧ Inc xs := by
  unfold chk at h
  split at h
  · cases h
  · split at h
    · exact ⟨by omega, by assumption⟩
    · cases h
theorem chk_of (h : xs.length ≤ 64) (h2 : Inc xs) : chk xs = 0 := by unfold chk; rw [if_neg (by omega), if_pos h2]
theorem Check_C (h : Sl M 2 encP a l c xs) : C 9 [.sl a l c] M = some (.int .i64 (chk xs), M) := by
  have hE := p9_0_eq C prog.meth a l c M
  have hl := h.2
  by_cases h0 : (l : Int) > 64
  · simp only [h0, decide_true, cond_true] at hE
    rw [show chk xs = 3 by unfold chk; rw [if_pos (by omega)]]
    exact c9 hE
  · simp only [h0, decide_false, cond_false] at hE
    have loop : ∀ (d i : Nat), i + d = l → (∀ j (hj2 : j + 1 < l), j + 1 < i → (xs[j]'(by omega)).1 < (xs[j + 1]'(by omega)).1) → p9_1 C prog.meth a l c (l : Int) (i : Int) M = some (.int .i64 (chk xs), M) := by
      intro d
      induction d with
      | zero =>
        intro i hi hs
        have hF := p9_1_eq C prog.meth a l c (l : Int) (i : Int) M
        have q : ¬ ((i : Int) < (l : Int)) := by omega
        simp only [q, decide_false, cond_false] at hF
        rw [chk_of (by omega) (fun j hj => hs j (by omega) (by omega))]
        exact hF
      | succ d ih =>
        intro i hi hs
        have hF := p9_1_eq C prog.meth a l c (l : Int) (i : Int) M
        have q : ((i : Int) < (l : Int)) := by omega
        have hw : IntKind.wrap .i64 ((i : Int) + 1) = ((i + 1 : Nat) : Int) := by rw [wrap_i64 (by omega) (by omega)]; rfl
        by_cases h1 : (i : Int) > 0
        · obtain ⟨m, rfl⟩ : ∃ m, i = m + 1 := ⟨i - 1, by omega⟩
          have hw2 : IntKind.wrap .i64 (((m + 1 : Nat) : Int) - 1) = (m : Int) := by rw [wrap_i64 (by omega) (by omega)]; omega
          have c0 : (0 : Int) ≤ ((m + 1 : Nat) : Int) := by omega
          have c1 : Nat.blt (m + 1) l = true := Mem.blt_iff.2 (by omega)
          have c2 : Nat.blt m l = true := Mem.blt_iff.2 (by omega)
          have c3 : (0 : Int) ≤ (m : Int) := by omega
          obtain ⟨p, hp, l1, _⟩ := pr_ld h (i := m + 1) (by omega)
          obtain ⟨p', hp', l2, _⟩ := pr_ld h (i := m) (by omega)
          rw [hp] at hp'; cases hp'
          by_cases h2 : (xs[m + 1]'(by omega)).1 ≤ (xs[m]'(by omega)).1
          · simp only [Option.bind_some, List.getElem?_cons_zero, List.getElem?_cons_succ, int?_int, AVal.bool?, AVal.ptr?, AVal.sl?, AVal.tup?, AVal.agg?, AVal.ifc?, AVal.fn?, AVal.str?, List.head?_cons, List.tail_cons, List.isEmpty_nil, cond_true, cond_false, Option.isNone_some, Option.isNone_none, Bool.not_true, Bool.not_false, decide_true, decide_false, beq_self_eq_true, bne_self_eq_false, Int.reduceBEq, Int.reduceBNe, Int.cast_ofNat_Int, q, h1, c0, c1, c2, c3, Int.toNat_natCast, hp, Nat.add_zero, l1, hw2, l2, h2] at hF
            have : chk xs = 190 := by
              unfold chk
              rw [if_neg (by omega), if_neg (fun hI => by have := hI m (by omega); omega)]
            rw [this]; exact hF
          · simp only [Option.bind_some, List.getElem?_cons_zero, List.getElem?_cons_succ, int?_int, AVal.bool?, AVal.ptr?, AVal.sl?, AVal.tup?, AVal.agg?, AVal.ifc?, AVal.fn?, AVal.str?, List.head?_cons, List.tail_cons, List.isEmpty_nil, cond_true, cond_false, Option.isNone_some, Option.isNone_none, Bool.not_true, Bool.not_false, decide_true, decide_false, beq_self_eq_true, bne_self_eq_false, Int.reduceBEq, Int.reduceBNe, Int.cast_ofNat_Int, q, h1, c0, c1, c2, c3, Int.toNat_natCast, hp, Nat.add_zero, l1, hw2, l2, h2, hw] at hF
            rw [hF]
            exact ih (m + 1 + 1) (by omega) (fun j hj2 hj => by
              by_cases e : j + 1 < m + 1
              · exact hs j hj2 e
              · obtain rfl : j = m := by omega
                omega)
        · simp only [Option.bind_some, List.getElem?_cons_zero, List.getElem?_cons_succ, int?_int, AVal.bool?, AVal.ptr?, AVal.sl?, AVal.tup?, AVal.agg?, AVal.ifc?, AVal.fn?, AVal.str?, List.head?_cons, List.tail_cons, List.isEmpty_nil, cond_true, cond_false, Option.isNone_some, Option.isNone_none, Bool.not_true, Bool.not_false, decide_true, decide_false, beq_self_eq_true, bne_self_eq_false, Int.reduceBEq, Int.reduceBNe, Int.cast_ofNat_Int, q, h1, hw] at hF
          rw [hF]
          exact ih (i + 1) (by omega) (fun j hj2 hj => by omega)
    exact c9 (hE.trans (loop l 0 (by omega) (fun j hj2 hj => by omega)))
theorem RCheck_C (h : Sl M 2 encP a l c xs) : C 10 [.sl a l c] M = some (.int .i64 (chk xs), M) := by
  have hE := p10_0_eq C prog.meth a l c M
  have hl := h.2
  by_cases h0 : (l : Int) > 64
  · simp only [h0, decide_true, cond_true] at hE
    rw [show chk xs = 3 by unfold chk; rw [if_pos (by omega)]]
    exact c10 hE
  · simp only [h0, decide_false, cond_false] at hE
    have loop : ∀ (d m : Nat), l ≤ m + 1 + d → (∀ j (hj2 : j + 1 < l), j < m → (xs[j]'(by omega)).1 < (xs[j + 1]'(by omega)).1) → p10_1 C prog.meth a l c ((m + 1 : Nat) : Int) M = some (.int .i64 (chk xs), M) := by
      intro d
      induction d with
      | zero =>
        intro m hi hs
        have hF := p10_1_eq C prog.meth a l c ((m + 1 : Nat) : Int) M
        have q : ¬ (((m + 1 : Nat) : Int) < (l : Int)) := by omega
        simp only [q, decide_false, cond_false] at hF
        rw [chk_of (by omega) (fun j hj => hs j (by omega) (by omega))]
        exact hF
      | succ d ih =>
        intro m hi hs
        have hF := p10_1_eq C prog.meth a l c ((m + 1 : Nat) : Int) M
        by_cases q : ((m + 1 : Nat) : Int) < (l : Int)
        rotate_left
        · simp only [q, decide_false, cond_false] at hF
          rw [chk_of (by omega) (fun j hj => hs j (by omega) (by omega))]
          exact hF
        have hw : IntKind.wrap .i64 (((m + 1 : Nat) : Int) + 1) = ((m + 1 + 1 : Nat) : Int) := by rw [wrap_i64 (by omega) (by omega)]; rfl
        have hw2 : IntKind.wrap .i64 (((m + 1 : Nat) : Int) - 1) = (m : Int) := by rw [wrap_i64 (by omega) (by omega)]; omega
        have c0 : (0 : Int) ≤ ((m + 1 : Nat) : Int) := by omega
        have c1 : Nat.blt (m + 1) l = true := Mem.blt_iff.2 (by omega)
        have c2 : Nat.blt m l = true := Mem.blt_iff.2 (by omega)
        have c3 : (0 : Int) ≤ (m : Int) := by omega
        obtain ⟨p, hp, l1, _⟩ := pr_ld h (i := m + 1) (by omega)
        obtain ⟨p', hp', l2, _⟩ := pr_ld h (i := m) (by omega)
        rw [hp] at hp'; cases hp'
        by_cases h2 : (xs[m + 1]'(by omega)).1 ≤ (xs[m]'(by omega)).1
        · simp only [Option.bind_some, List.getElem?_cons_zero, List.getElem?_cons_succ, int?_int, AVal.bool?, AVal.ptr?, AVal.sl?, AVal.tup?, AVal.agg?, AVal.ifc?, AVal.fn?, AVal.str?, List.head?_cons, List.tail_cons, List.isEmpty_nil, cond_true, cond_false, Option.isNone_some, Option.isNone_none, Bool.not_true, Bool.not_false, decide_true, decide_false, beq_self_eq_true, bne_self_eq_false, Int.reduceBEq, Int.reduceBNe, Int.cast_ofNat_Int, q, c0, c1, c2, c3, Int.toNat_natCast, hp, Nat.add_zero, l1, hw2, l2, h2] at hF
          have : chk xs = 190 := by
            unfold chk
            rw [if_neg (by omega), if_neg (fun hI => by have := hI m (by omega); omega)]
          rw [this]; exact hF
        · simp only [Option.bind_some, List.getElem?_cons_zero, List.getElem?_cons_succ, int?_int, AVal.bool?, AVal.ptr?, AVal.sl?, AVal.tup?, AVal.agg?, AVal.ifc?, AVal.fn?, AVal.str?, List.head?_cons, List.tail_cons, List.isEmpty_nil, cond_true, cond_false, Option.isNone_some, Option.isNone_none, Bool.not_true, Bool.not_false, decide_true, decide_false, beq_self_eq_true, bne_self_eq_false, Int.reduceBEq, Int.reduceBNe, Int.cast_ofNat_Int, q, c0, c1, c2, c3, Int.toNat_natCast, hp, Nat.add_zero, l1, hw2, l2, h2, hw] at hF
          rw [hF]
          exact ih (m + 1) (by omega) (fun j hj2 hj => by
            by_cases e : j < m
            · exact hs j hj2 e
            · obtain rfl : j = m := by omega
              omega)
    exact c10 (hE.trans (loop l 0 (by omega) (fun j hj2 hj => by omega)))
/-- What a key is found to have. -/
def IsLk (xs : List Pr) (k v : Int) (b : Bool) : Prop := (b = true ∧ (k, v) ∈ xs) ∨ (b = false ∧ v = 0 ∧ ∀ p ∈ xs, p.1 ≠ k)
theorem Inc.uniq (h : Inc xs) {k v w : Int} (h1 : (k, v) ∈ xs) (h2 : (k, w) ∈ xs) : v = w := by
  obtain ⟨i, hi, e1⟩ := List.mem_iff_getElem.1 h1
  obtain ⟨j, hj, e2⟩ := List.mem_iff_getElem.1 h2
  rcases Nat.lt_trichotomy i j with hij | rfl | hij
  · have := h.lt' hij hj
    rw [e1, e2] at this; simp only at this; omega
  · rw [e1] at e2; cases e2; rfl
  · have := h.lt' hij hi
    rw [e1, e2] at this; simp only at this; omega
theorem IsLk.uniq (h : Inc xs) {k v w : Int} {b b' : Bool} (h1 : IsLk xs k v b) (h2 : IsLk xs k w b') : v = w ∧ b = b' := by
  rcases h1 with ⟨rfl, m1⟩ | ⟨rfl, rfl, n1⟩ <;> rcases h2 with ⟨rfl, m2⟩ | ⟨rfl, rfl, n2⟩
  · exact ⟨h.uniq m1 m2, rfl⟩
  · exact absurd rfl (n2 _ m1)
  · exact absurd rfl (n1 _ m2)
  · exact ⟨rfl, rfl⟩
theorem Find_C (h : Sl M 2 encP a l c xs) (k : Int) : ∃ v b, C 11 [.sl a l c, .int .u64 k] M = some (.tup [.int .u64 v, .bool b], M) ∧ (chk xs ≠ 0 → v = 0 ∧ b = false) ∧ (chk xs = 0 → IsLk xs k v b) := by
  have hE := p11_0_eq C prog.meth a l c k M
  have hl := h.2
  simp only [Option.bind_some, List.getElem?_cons_zero, List.getElem?_cons_succ, int?_int, AVal.bool?, AVal.ptr?, AVal.sl?, AVal.tup?, AVal.agg?, AVal.ifc?, AVal.fn?, AVal.str?, List.head?_cons, List.tail_cons, List.isEmpty_nil, cond_true, cond_false, Option.isNone_some, Option.isNone_none, Bool.not_true, Bool.not_false, decide_true, decide_false, beq_self_eq_true, bne_self_eq_false, Int.reduceBEq, Int.reduceBNe, Int.cast_ofNat_Int, Check_C h] at hE
  by_cases h0 : chk xs = 0
  · obtain ⟨h64, hI⟩ := chk_zero h0
    simp only [h0, bne_self_eq_false, cond_false] at hE
    have loop : ∀ (d f t : Nat), t - f ≤ d → f ≤ t → t ≤ l → (∀ j (hj2 : j < l), j < f → (xs[j]'(by omega)).1 < k) → (∀ j (hj : j < l), t ≤ j → k < (xs[j]'(by omega)).1) → ∃ v b, p11_1 C prog.meth a l c k (f : Int) (t : Int) M = some (.tup [.int .u64 v, .bool b], M) ∧ IsLk xs k v b := by
      intro d
      induction d with
      | zero =>
        intro f t hd hft htl hlo hhi
        have hF := p11_1_eq C prog.meth a l c k (f : Int) (t : Int) M
        have q : ¬ ((f : Int) < (t : Int)) := by omega
        simp only [q, decide_false, cond_false] at hF
        refine ⟨0, false, hF, .inr ⟨rfl, rfl, fun p hp => ?_⟩⟩
        obtain ⟨j, hj, rfl⟩ := List.mem_iff_getElem.1 hp
        by_cases e : j < f
        · have := hlo j (by omega) e; omega
        · have := hhi j (by omega) (by omega); omega
      | succ d ih =>
        intro f t hd hft htl hlo hhi
        have hF := p11_1_eq C prog.meth a l c k (f : Int) (t : Int) M
        by_cases q : ((f : Int) < (t : Int))
        rotate_left
        · exact ih f t (by omega) hft htl hlo hhi
        have hw : IntKind.wrap .i64 (Int.tdiv (IntKind.wrap .i64 ((f : Int) + (t : Int))) 2) = (((f + t) / 2 : Nat) : Int) := by
          rw [wrap_i64 (n := (f : Int) + t) (by omega) (by omega)]
          have : Int.tdiv ((f : Int) + (t : Int)) 2 = (((f + t) / 2 : Nat) : Int) := by
            rw [Int.tdiv_eq_ediv_of_nonneg (by omega)]; omega
          rw [this, wrap_i64 (by omega) (by omega)]
        obtain ⟨m, hm⟩ : ∃ m, (f + t) / 2 = m := ⟨_, rfl⟩
        rw [hm] at hw
        have c0 : (0 : Int) ≤ (m : Int) := by omega
        have c1 : Nat.blt m l = true := Mem.blt_iff.2 (by omega)
        have hw2 : IntKind.wrap .i64 ((m : Int) + 1) = ((m + 1 : Nat) : Int) := by rw [wrap_i64 (by omega) (by omega)]; rfl
        obtain ⟨p, hp, l1, l2⟩ := pr_ld h (i := m) (by omega)
        simp only [Option.bind_some, List.getElem?_cons_zero, List.getElem?_cons_succ, int?_int, AVal.bool?, AVal.ptr?, AVal.sl?, AVal.tup?, AVal.agg?, AVal.ifc?, AVal.fn?, AVal.str?, List.head?_cons, List.tail_cons, List.isEmpty_nil, cond_true, cond_false, Option.isNone_some, Option.isNone_none, Bool.not_true, Bool.not_false, decide_true, decide_false, beq_self_eq_true, bne_self_eq_false, Int.reduceBEq, Int.reduceBNe, Int.cast_ofNat_Int, q, hw, c0, c1, Int.toNat_natCast, hp, Nat.add_zero, l1, l2, hw2] at hF
        by_cases e1 : (xs[m]'(by omega)).1 = k
        · simp only [e1, beq_self_eq_true, cond_true] at hF
          exact ⟨_, _, hF, .inl ⟨rfl, List.mem_iff_getElem.2 ⟨m, by omega, by rw [← e1]⟩⟩⟩
        · have e1' : ((xs[m]'(by omega)).1 == k) = false := by simpa using e1
          simp only [e1', cond_false] at hF
          by_cases e2 : (xs[m]'(by omega)).1 < k
          · simp only [e2, decide_true, cond_true] at hF
            obtain ⟨v, b, r1, r2⟩ := ih (m + 1) t (by omega) (by omega) htl (fun j hj2 hj => by
              by_cases e : j < m
              · have := hI.lt' e (by omega); omega
              · obtain rfl : j = m := by omega
                exact e2) hhi
            exact ⟨v, b, hF.trans r1, r2⟩
          · simp only [e2, decide_false, cond_false] at hF
            obtain ⟨v, b, r1, r2⟩ := ih f m (by omega) (by omega) (by omega) hlo (fun j hj hmj => by
              by_cases e : m < j
              · have := hI.lt' e (by omega); omega
              · obtain rfl : j = m := by omega
                omega)
            exact ⟨v, b, hF.trans r1, r2⟩
    obtain ⟨v, b, r1, r2⟩ := loop l 0 l (by omega) (by omega) (Nat.le_refl _) (fun j hj2 hj => by omega) (fun j hj hlj => by omega)
    exact ⟨v, b, c11 (hE.trans r1), fun hne => absurd h0 hne, fun _ => r2⟩
  · have : (chk xs != 0) = true := by simpa using h0
    simp only [this, cond_true] at hE
    exact ⟨0, false, c11 hE, fun _ => ⟨rfl, rfl⟩, fun h => absurd h h0⟩
theorem RFind_C (h : Sl M 2 encP a l c xs) (k : Int) : ∃ v b, C 12 [.sl a l c, .int .u64 k] M = some (.tup [.int .u64 v, .bool b], M) ∧ (chk xs ≠ 0 → v = 0 ∧ b = false) ∧ (chk xs = 0 → IsLk xs k v b) := by
  have hE := p12_0_eq C prog.meth a l c k M
  have hl := h.2
  simp only [Option.bind_some, List.getElem?_cons_zero, List.getElem?_cons_succ, int?_int, AVal.bool?, AVal.ptr?, AVal.sl?, AVal.tup?, AVal.agg?, AVal.ifc?, AVal.fn?, AVal.str?, List.head?_cons, List.tail_cons, List.isEmpty_nil, cond_true, cond_false, Option.isNone_some, Option.isNone_none, Bool.not_true, Bool.not_false, decide_true, decide_false, beq_self_eq_true, bne_self_eq_false, Int.reduceBEq, Int.reduceBNe, Int.cast_ofNat_Int, RCheck_C h] at hE
  by_cases h0 : chk xs = 0
  · obtain ⟨h64, hI⟩ := chk_zero h0
    simp only [h0, bne_self_eq_false, cond_false] at hE
    have loop : ∀ (d i : Nat), i + d = l → (∀ j (hj2 : j < l), j < i → (xs[j]'(by omega)).1 ≠ k) → ∃ v b, p12_1 C prog.meth a l c k (i : Int) M = some (.tup [.int .u64 v, .bool b], M) ∧ IsLk xs k v b := by
      intro d
      induction d with
      | zero =>
        intro i hi hn
        have hF := p12_1_eq C prog.meth a l c k (i : Int) M
        have q : ¬ ((i : Int) < (l : Int)) := by omega
        simp only [q, decide_false, cond_false] at hF
        refine ⟨0, false, hF, .inr ⟨rfl, rfl, fun p hp => ?_⟩⟩
        obtain ⟨j, hj, rfl⟩ := List.mem_iff_getElem.1 hp
        exact hn j (by omega) (by omega)
      | succ d ih =>
        intro i hi hn
        have hF := p12_1_eq C prog.meth a l c k (i : Int) M
        have q : ((i : Int) < (l : Int)) := by omega
        have c0 : (0 : Int) ≤ (i : Int) := by omega
        have c1 : Nat.blt i l = true := Mem.blt_iff.2 (by omega)
        have hw : IntKind.wrap .i64 ((i : Int) + 1) = ((i + 1 : Nat) : Int) := by rw [wrap_i64 (by omega) (by omega)]; rfl
        obtain ⟨p, hp, l1, l2⟩ := pr_ld h (i := i) (by omega)
        simp only [Option.bind_some, List.getElem?_cons_zero, List.getElem?_cons_succ, int?_int, AVal.bool?, AVal.ptr?, AVal.sl?, AVal.tup?, AVal.agg?, AVal.ifc?, AVal.fn?, AVal.str?, List.head?_cons, List.tail_cons, List.isEmpty_nil, cond_true, cond_false, Option.isNone_some, Option.isNone_none, Bool.not_true, Bool.not_false, decide_true, decide_false, beq_self_eq_true, bne_self_eq_false, Int.reduceBEq, Int.reduceBNe, Int.cast_ofNat_Int, q, c0, c1, Int.toNat_natCast, hp, Nat.add_zero, l1, l2, hw] at hF
        by_cases e1 : (xs[i]'(by omega)).1 = k
        · simp only [e1, beq_self_eq_true, cond_true] at hF
          exact ⟨_, _, hF, .inl ⟨rfl, List.mem_iff_getElem.2 ⟨i, by omega, by rw [← e1]⟩⟩⟩
        · have e1' : ((xs[i]'(by omega)).1 == k) = false := by simpa using e1
          simp only [e1', cond_false] at hF
          obtain ⟨v, b, r1, r2⟩ := ih (i + 1) (by omega) (fun j hj2 hj => by
            by_cases e : j < i
            · exact hn j hj2 e
            · obtain rfl : j = i := by omega
              exact e1)
          exact ⟨v, b, hF.trans r1, r2⟩
    obtain ⟨v, b, r1, r2⟩ := loop l 0 (by omega) (fun j hj2 hj => by omega)
    exact ⟨v, b, c12 (hE.trans r1), fun hne => absurd h0 hne, fun _ => r2⟩
  · have : (chk xs != 0) = true := by simpa using h0
    simp only [this, cond_true] at hE
    exact ⟨0, false, c12 hE, fun _ => ⟨rfl, rfl⟩, fun h => absurd h h0⟩
theorem find_same {v w : Int} {b b' : Bool} {k : Int} (h1 : chk xs ≠ 0 → v = 0 ∧ b = false) (h2 : chk xs = 0 → IsLk xs k v b) (h3 : chk xs ≠ 0 → w = 0 ∧ b' = false) (h4 : chk xs = 0 → IsLk xs k w b') : v = w ∧ b = b' := by
  by_cases h0 : chk xs = 0
  · exact (h2 h0).uniq (chk_zero h0).2 (h4 h0)
  · obtain ⟨rfl, rfl⟩ := h1 h0
    obtain ⟨rfl, rfl⟩ := h3 h0
    exact ⟨rfl, rfl⟩
theorem Same_C (h : Sl M 2 encP a l c xs) (h' : Sl M 2 encP a' l' c' ys) (hl48 : l < 2 ^ 48) : C 13 [.sl a l c, .sl a' l' c'] M = some (.bool (decide (xs = ys)), M) := by
  have hE := p13_0_eq C prog.meth a l c a' l' c' M
  have hl := h.2
  have hl' := h'.2
  by_cases h0 : l = l'
  · subst h0
    have : (((l : Nat) : Int) != (l : Int)) = false := by simp
    simp only [this, cond_false] at hE
    have loop : ∀ (d i : Nat), i + d = l → (∀ j (hj2 : j < l), j < i → xs[j]'(by omega) = ys[j]'(by omega)) → p13_1 C prog.meth a l c a' l c' (i : Int) M = some (.bool (decide (xs = ys)), M) := by
      intro d
      induction d with
      | zero =>
        intro i hi hn
        have hF := p13_1_eq C prog.meth a l c a' l c' (i : Int) M
        have q : ¬ ((i : Int) < (l : Int)) := by omega
        simp only [q, decide_false, cond_false] at hF
        have : xs = ys := List.ext_getElem (by omega) (fun j h1 h2 => hn j (by omega) (by omega))
        rw [decide_eq_true this]; exact hF
      | succ d ih =>
        intro i hi hn
        have hF := p13_1_eq C prog.meth a l c a' l c' (i : Int) M
        have q : ((i : Int) < (l : Int)) := by omega
        have c0 : (0 : Int) ≤ (i : Int) := by omega
        have c1 : Nat.blt i l = true := Mem.blt_iff.2 (by omega)
        have hw : IntKind.wrap .i64 ((i : Int) + 1) = ((i + 1 : Nat) : Int) := by rw [wrap_i64 (by omega) (by omega)]; rfl
        obtain ⟨p, hp, l1, l2⟩ := pr_ld h (i := i) (by omega)
        obtain ⟨p', hp', l1', l2'⟩ := pr_ld h' (i := i) (by omega)
        simp only [Option.bind_some, List.getElem?_cons_zero, List.getElem?_cons_succ, int?_int, AVal.bool?, AVal.ptr?, AVal.sl?, AVal.tup?, AVal.agg?, AVal.ifc?, AVal.fn?, AVal.str?, List.head?_cons, List.tail_cons, List.isEmpty_nil, cond_true, cond_false, Option.isNone_some, Option.isNone_none, Bool.not_true, Bool.not_false, decide_true, decide_false, beq_self_eq_true, bne_self_eq_false, Int.reduceBEq, Int.reduceBNe, Int.cast_ofNat_Int, q, c0, c1, Int.toNat_natCast, hp, hp', l1, l2, l1', l2', hw, Bool.and_true] at hF
        by_cases e : xs[i]'(by omega) = ys[i]'(by omega)
        · rw [e] at hF
          simp only [beq_self_eq_true, Bool.and_self, Bool.not_true, cond_false] at hF
          rw [hF]
          exact ih (i + 1) (by omega) (fun j hj2 hj => by
            by_cases e2 : j < i
            · exact hn j hj2 e2
            · obtain rfl : j = i := by omega
              exact e)
        · have : ((xs[i]'(by omega)).1 == (ys[i]'(by omega)).1 && (xs[i]'(by omega)).2 == (ys[i]'(by omega)).2) = false := by
            by_cases e1 : (xs[i]'(by omega)).1 = (ys[i]'(by omega)).1
            · by_cases e2 : (xs[i]'(by omega)).2 = (ys[i]'(by omega)).2
              · exact absurd (Prod.ext e1 e2) e
              · simp [e2]
            · simp [e1]
          simp only [this, Bool.not_false, cond_true] at hF
          rw [decide_eq_false (fun h => e (by simp [h]))]; exact hF
    exact c13 (hE.trans (loop l 0 (by omega) (fun j hj2 hj => by omega)))
  · have : (((l : Nat) : Int) != (l' : Int)) = true := by simp; omega
    simp only [this, cond_true] at hE
    rw [decide_eq_false (fun h => h0 (by rw [← hl, ← hl', h]))]
    exact c13 hE
theorem Copy_C (h : Sl M 2 encP a l c xs) (hl48 : l ≤ 2 ^ 43) : ∃ M' a2 c2, C 8 [.sl a l c] M = some (.sl a2 l c2, M') ∧ M.Upto M' ∧ Row M' 2 encP a2 l c2 xs ∧ (∀ o ∈ fpOf a2, M.n ≤ o ∧ o < M'.n) := by
  have hE := p8_0_eq C prog.meth a l c M
  obtain ⟨M', a2, c2, q1, q2, q3, q4, q5⟩ := (Row.nil M 2 encP).cat (bytes := 16) encP2 (by omega) h (by omega) (by simp [fpOf])
  rw [q1] at hE
  rw [Nat.zero_add] at hE q2
  exact ⟨M', a2, c2, c8 hE, ⟨q3, fun o ho => q4.2 o ho (by simp [fpOf])⟩, by simpa using q2, fun o ho => ⟨by have := (q5 o ho).1; simp [fpOf] at this; exact this, (q5 o ho).2⟩⟩
/-- Pairs, as arguments have them. -/
theorem pairs_of {v : AVal} (h : Shows M (.sl 16 [.int .u64, .int .u64]) v) : ∃ a l c xs, v = .sl a l c ∧ Sl M 2 encP a l c xs ∧ l * 16 ≤ reachBytes ∧ ∀ p ∈ xs, (0 ≤ p.1 ∧ p.1 < 18446744073709551616) ∧ (0 ≤ p.2 ∧ p.2 < 18446744073709551616) := by
  have h0 := h
  rw [Shows] at h
  rcases h with rfl | ⟨o, rfl⟩ | ⟨o, len, cells, rfl, h2, h3, h4, h5⟩
  · exact ⟨_, _, _, [], rfl, Sl.nil _ _ _ _ _, by simp, by simp⟩
  · exact ⟨_, _, _, [], rfl, Sl.nil _ _ _ _ _, by simp, by simp⟩
  · have one : ∀ i, i < len → ∃ p : Pr, (cells.drop (i * 2)).take 2 = encP p ∧ (0 ≤ p.1 ∧ p.1 < 18446744073709551616) ∧ (0 ≤ p.2 ∧ p.2 < 18446744073709551616) := by
      intro i hi
      have := h5 i hi
      simp only [ShowsR] at this
      obtain ⟨v0, w0, e0, hb0, v1, w1, rfl, hb1, rfl⟩ := this
      simp only [Shows] at hb0 hb1
      obtain ⟨x, rfl, hx⟩ := hb0
      obtain ⟨y, rfl, hy⟩ := hb1
      exact ⟨(x, y), e0, u64_bounds hx, u64_bounds hy⟩
    have all : ∀ n, n ≤ len → ∃ xs : List Pr, xs.length = n ∧ cells.take (n * 2) = xs.flatMap encP ∧ ∀ p ∈ xs, (0 ≤ p.1 ∧ p.1 < 18446744073709551616) ∧ (0 ≤ p.2 ∧ p.2 < 18446744073709551616) := by
      intro n
      induction n with
      | zero => exact fun _ => ⟨[], rfl, by simp, by simp⟩
      | succ n ih =>
        intro hn
        obtain ⟨xs, e1, e2, e3⟩ := ih (by omega)
        obtain ⟨p, f1, f2⟩ := one n (by omega)
        refine ⟨xs ++ [p], by simp [e1], ?_, fun q hq => ?_⟩
        · rw [Nat.add_mul, Nat.one_mul, List.take_add, e2, f1]; simp [List.flatMap_append]
        · rcases List.mem_append.1 hq with hq | hq
          · exact e3 q hq
          · obtain rfl : q = p := by simpa using hq
            exact f2
    obtain ⟨xs, e1, e2, e3⟩ := all len (Nat.le_refl _)
    have hc : cells.length = len * 2 := by simpa using h3
    rw [← hc, List.take_length] at e2
    refine ⟨_, _, _, xs, rfl, ?_, h4, e3⟩
    rw [e2] at h2
    have := Sl.whole (c := .unk 0) encP2 h2 (by simp) rfl
    rwa [e1] at this
end
theorem awake19_C : ∃ M', C 14 [] Mem.empty = some (.bool true, M') := whole_says (n := 4000) (by kernel_rfl)
/-- TableFinds. -/
theorem TableFinds_C {M : Mem} {a : Option (Nat × Nat)} {l : Nat} {c : Cap} {xs : List Pr} {k : Int} (h : Sl M 2 encP a l c xs) (hl : l ≤ 2 ^ 43) : ∃ M', C 3 [.sl a l c, .int .u64 k] M = some (.bool true, M') ∧ M.Upto M' := by
  have hE := p3_0_eq C prog.meth a l c k M
  have hxl := h.2
  obtain ⟨M1, a2, c2, e1, u1, r1, f1⟩ := Copy_C h hl
  have h1 := h.upto encP2 (by omega) u1
  rw [e1, Option.bind_some] at hE
  simp only [Option.bind_some, List.getElem?_cons_zero, List.getElem?_cons_succ, int?_int, AVal.bool?, AVal.ptr?, AVal.sl?, AVal.tup?, AVal.agg?, AVal.ifc?, AVal.fn?, AVal.str?, List.head?_cons, List.tail_cons, List.isEmpty_nil, cond_true, cond_false, Option.isNone_some, Option.isNone_none, Bool.not_true, Bool.not_false, decide_true, decide_false, beq_self_eq_true, bne_self_eq_false, Int.reduceBEq, Int.reduceBNe, Int.cast_ofNat_Int] at hE
  rw [Check_C r1.sl, Option.bind_some] at hE
  simp only [Option.bind_some, List.getElem?_cons_zero, List.getElem?_cons_succ, int?_int, AVal.bool?, AVal.ptr?, AVal.sl?, AVal.tup?, AVal.agg?, AVal.ifc?, AVal.fn?, AVal.str?, List.head?_cons, List.tail_cons, List.isEmpty_nil, cond_true, cond_false, Option.isNone_some, Option.isNone_none, Bool.not_true, Bool.not_false, decide_true, decide_false, beq_self_eq_true, bne_self_eq_false, Int.reduceBEq, Int.reduceBNe, Int.cast_ofNat_Int] at hE
  rw [RCheck_C h1, Option.bind_some] at hE
  simp only [Option.bind_some, List.getElem?_cons_zero, List.getElem?_cons_succ, int?_int, AVal.bool?, AVal.ptr?, AVal.sl?, AVal.tup?, AVal.agg?, AVal.ifc?, AVal.fn?, AVal.str?, List.head?_cons, List.tail_cons, List.isEmpty_nil, cond_true, cond_false, Option.isNone_some, Option.isNone_none, Bool.not_true, Bool.not_false, decide_true, decide_false, beq_self_eq_true, bne_self_eq_false, Int.reduceBEq, Int.reduceBNe, Int.cast_ofNat_Int, bne_self_eq_false] at hE
  obtain ⟨Mw, cw⟩ := awake19_C
  have step : ∀ (i x : Int), p3_4 C prog.meth a l c k a2 l c2 i x M1 = p3_1 C prog.meth a l c k a2 l c2 (IntKind.wrap .i64 (i + 1)) M1 := by
    intro i x
    have hF := p3_4_eq C prog.meth a l c k a2 l c2 i x M1
    obtain ⟨v, b, q1, q2, q3⟩ := Find_C r1.sl x
    obtain ⟨w, b', w1, w2, w3⟩ := RFind_C h1 x
    obtain ⟨rfl, rfl⟩ := find_same q2 q3 w2 w3
    rw [q1, Option.bind_some] at hF
    simp only [Option.bind_some, List.getElem?_cons_zero, List.getElem?_cons_succ, int?_int, AVal.bool?, AVal.ptr?, AVal.sl?, AVal.tup?, AVal.agg?, AVal.ifc?, AVal.fn?, AVal.str?, List.head?_cons, List.tail_cons, List.isEmpty_nil, cond_true, cond_false, Option.isNone_some, Option.isNone_none, Bool.not_true, Bool.not_false, decide_true, decide_false, beq_self_eq_true, bne_self_eq_false, Int.reduceBEq, Int.reduceBNe, Int.cast_ofNat_Int] at hF
    rw [w1, Option.bind_some] at hF
    simp only [Option.bind_some, List.getElem?_cons_zero, List.getElem?_cons_succ, int?_int, AVal.bool?, AVal.ptr?, AVal.sl?, AVal.tup?, AVal.agg?, AVal.ifc?, AVal.fn?, AVal.str?, List.head?_cons, List.tail_cons, List.isEmpty_nil, cond_true, cond_false, Option.isNone_some, Option.isNone_none, Bool.not_true, Bool.not_false, decide_true, decide_false, beq_self_eq_true, bne_self_eq_false, Int.reduceBEq, Int.reduceBNe, Int.cast_ofNat_Int, bne_self_eq_false, beq_self_eq_true, Bool.not_true] at hF
    exact hF
  have fin : ∀ i : Int, (¬ (i < (l : Int)) ∨ ¬ (i < 70)) → p3_1 C prog.meth a l c k a2 l c2 i M1 = some (.bool true, M1) := by
    intro i hi
    have hF := p3_1_eq C prog.meth a l c k a2 l c2 i M1
    have hs := Same_C r1.sl h1 (by omega)
    simp only [decide_true] at hs
    by_cases h0 : i < (l : Int)
    · have h1 : ¬ (i < 70) := by omega
      simp only [h0, h1, decide_true, decide_false, cond_true, cond_false] at hF
      rw [hs, Option.bind_some] at hF
      simp only [Option.bind_some, List.getElem?_cons_zero, List.getElem?_cons_succ, int?_int, AVal.bool?, AVal.ptr?, AVal.sl?, AVal.tup?, AVal.agg?, AVal.ifc?, AVal.fn?, AVal.str?, List.head?_cons, List.tail_cons, List.isEmpty_nil, cond_true, cond_false, Option.isNone_some, Option.isNone_none, Bool.not_true, Bool.not_false, decide_true, decide_false, beq_self_eq_true, bne_self_eq_false, Int.reduceBEq, Int.reduceBNe, Int.cast_ofNat_Int] at hF
      rw [cw, Option.bind_some] at hF
      simp only [Option.bind_some, List.getElem?_cons_zero, List.getElem?_cons_succ, int?_int, AVal.bool?, AVal.ptr?, AVal.sl?, AVal.tup?, AVal.agg?, AVal.ifc?, AVal.fn?, AVal.str?, List.head?_cons, List.tail_cons, List.isEmpty_nil, cond_true, cond_false, Option.isNone_some, Option.isNone_none, Bool.not_true, Bool.not_false, decide_true, decide_false, beq_self_eq_true, bne_self_eq_false, Int.reduceBEq, Int.reduceBNe, Int.cast_ofNat_Int] at hF
      exact hF
    · simp only [h0, decide_false, cond_false] at hF
      rw [hs, Option.bind_some] at hF
      simp only [Option.bind_some, List.getElem?_cons_zero, List.getElem?_cons_succ, int?_int, AVal.bool?, AVal.ptr?, AVal.sl?, AVal.tup?, AVal.agg?, AVal.ifc?, AVal.fn?, AVal.str?, List.head?_cons, List.tail_cons, List.isEmpty_nil, cond_true, cond_false, Option.isNone_some, Option.isNone_none, Bool.not_true, Bool.not_false, decide_true, decide_false, beq_self_eq_true, bne_self_eq_false, Int.reduceBEq, Int.reduceBNe, Int.cast_ofNat_Int] at hF
      rw [cw, Option.bind_some] at hF
      simp only [Option.bind_some, List.getElem?_cons_zero, List.getElem?_cons_succ, int?_int, AVal.bool?, AVal.ptr?, AVal.sl?, AVal.tup?, AVal.agg?, AVal.ifc?, AVal.fn?, AVal.str?, List.head?_cons, List.tail_cons, List.isEmpty_nil, cond_true, cond_false, Option.isNone_some, Option.isNone_none, Bool.not_true, Bool.not_false, decide_true, decide_false, beq_self_eq_true, bne_self_eq_false, Int.reduceBEq, Int.reduceBNe, Int.cast_ofNat_Int] at hF
      exact hF
  have loop : ∀ (d i : Nat), 70 ≤ i + d → p3_1 C prog.meth a l c k a2 l c2 (i : Int) M1 = some (.bool true, M1) := by
    intro d
    induction d with
    | zero => exact fun i hi => fin i (.inr (by omega))
    | succ d ih =>
      intro i hi
      by_cases h0 : (i : Int) < (l : Int)
      · by_cases h70 : (i : Int) < 70
        · have hF := p3_1_eq C prog.meth a l c k a2 l c2 (i : Int) M1
          have hF2 := p3_2_eq C prog.meth a l c k a2 l c2 (i : Int) M1
          have hF3 := p3_3_eq C prog.meth a l c k a2 l c2 (i : Int) M1
          have c0 : (i : Int) ≥ 0 := by omega
          have c0' : (0 : Int) ≤ (i : Int) := by omega
          have c1 : Nat.blt i l = true := Mem.blt_iff.2 (by omega)
          have hw : IntKind.wrap .i64 ((i : Int) + 1) = ((i + 1 : Nat) : Int) := by rw [wrap_i64 (by omega) (by omega)]; rfl
          obtain ⟨p, hp, l1, l2⟩ := pr_ld h1 (i := i) (by omega)
          simp only [h0, h70, decide_true, cond_true] at hF
          simp only [c0, decide_true, cond_true] at hF2
          simp only [Option.bind_some, List.getElem?_cons_zero, List.getElem?_cons_succ, int?_int, AVal.bool?, AVal.ptr?, AVal.sl?, AVal.tup?, AVal.agg?, AVal.ifc?, AVal.fn?, AVal.str?, List.head?_cons, List.tail_cons, List.isEmpty_nil, cond_true, cond_false, Option.isNone_some, Option.isNone_none, Bool.not_true, Bool.not_false, decide_true, decide_false, beq_self_eq_true, bne_self_eq_false, Int.reduceBEq, Int.reduceBNe, Int.cast_ofNat_Int, c0', c1, Int.toNat_natCast, hp, Nat.add_zero, l1] at hF3
          have st := step (i : Int) (xs[i]'(by omega)).1
          rw [hw] at st
          exact hF.trans (hF2.trans (hF3.trans (st.trans (ih (i + 1) (by omega)))))
        · exact fin i (.inr h70)
      · exact fin i (.inl h0)
  -- the key that was asked for
  have hF := p3_1_eq C prog.meth a l c k a2 l c2 (-1) M1
  have hF2 := p3_2_eq C prog.meth a l c k a2 l c2 (-1) M1
  have k1 : ((-1 : Int) < (l : Int)) := by omega
  have k2 : ((-1 : Int) < 70) := by omega
  have k3 : ¬ ((-1 : Int) ≥ 0) := by omega
  have hw : IntKind.wrap .i64 ((-1 : Int) + 1) = ((0 : Nat) : Int) := by decide
  simp only [k1, k2, decide_true, cond_true] at hF
  simp only [k3, decide_false, cond_false] at hF2
  have st := step (-1) k
  rw [hw] at st
  exact ⟨M1, c3 (hE.trans (hF.trans (hF2.trans (st.trans (loop 70 0 (by omega)))))), u1⟩
theorem TableFinds_law : ∀ avs M, M.Whole → okL M.n avs → ShowsArgs M [(false, [.sl 16 [.int .u64, .int .u64]]), (false, [.int .u64])] avs → ∃ M', C 3 avs M = some (.bool true, M') := by
  intro avs M hM hok h
  simp only [ShowsArgs, ShowsArg] at h
  obtain ⟨v, _, rfl, ⟨t, ht, hv⟩, w, _, rfl, ⟨t2, ht2, hw⟩, rfl⟩ := h
  obtain rfl : t = .sl 16 [.int .u64, .int .u64] := by simpa using ht.symm
  obtain rfl : t2 = .int .u64 := by simpa using ht2.symm
  obtain ⟨a, l, c, xs, rfl, hx, hl, hb⟩ := pairs_of hv
  simp only [Shows] at hw
  obtain ⟨k, rfl, _⟩ := hw
  obtain ⟨M', h1, _⟩ := TableFinds_C (k := k) hx (by simp [reachBytes] at hl; omega)
  exact ⟨M', h1⟩
end Go.Proofs.Ytlglggcheffoeaa.M
