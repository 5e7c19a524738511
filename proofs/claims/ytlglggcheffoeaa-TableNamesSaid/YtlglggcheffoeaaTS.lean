/- slices.SortStableFunc, of pairs by key. -/
import Derived.Test.YtlglggcheffoeaaTA
set_option linter.unusedVariables false
set_option linter.unusedSimpArgs false
set_option linter.unnecessarySimpa false
set_option maxRecDepth 100000
namespace Go.Proofs.Ytlglggcheffoeaa.M
open Go.Abs Go.RowKit

/-! Stable changes: plain. -/
def St (S S' : List Pr) : Prop := ∀ k : Int, S.filter (fun p => p.1 == k) = S'.filter (fun p => p.1 == k)
theorem St.refl (S : List Pr) : St S S := fun _ => rfl
theorem St.symm {S S' : List Pr} (h : St S S') : St S' S := fun k => (h k).symm
theorem St.trans {A B D : List Pr} (h : St A B) (h' : St B D) : St A D := fun k => (h k).trans (h' k)
theorem St.app {A A' B B' : List Pr} (h : St A A') (h' : St B B') : St (A ++ B) (A' ++ B') := fun k => by rw [List.filter_append, List.filter_append, h k, h' k]
theorem St.mem {A B : List Pr} (h : St A B) {p : Pr} : p ∈ A ↔ p ∈ B := by
  have e : ∀ L : List Pr, p ∈ L ↔ p ∈ L.filter (fun q => q.1 == p.1) := fun L => by simp [List.mem_filter]
  rw [e A, e B, h p.1]
theorem filter_nokey {A : List Pr} {k : Int} (h : ∀ x ∈ A, x.1 ≠ k) : A.filter (fun p => p.1 == k) = [] := List.filter_eq_nil_iff.2 (fun x hx => by simpa using h x hx)
theorem St.swap {A B : List Pr} (h : ∀ x ∈ A, ∀ y ∈ B, x.1 ≠ y.1) : St (A ++ B) (B ++ A) := fun k => by
  rw [List.filter_append, List.filter_append]
  by_cases hk : ∃ x ∈ A, x.1 = k
  · obtain ⟨x, hx, rfl⟩ := hk
    rw [filter_nokey (A := B) (fun y hy e => h x hx y hy e.symm), List.append_nil, List.nil_append]
  · rw [filter_nokey (A := A) (fun x hx e => hk ⟨x, hx, e⟩), List.append_nil, List.nil_append]
abbrev Srt (S : List Pr) : Prop := S.Pairwise (fun x y => x.1 ≤ y.1)
theorem Srt.app {A B : List Pr} : Srt (A ++ B) ↔ Srt A ∧ Srt B ∧ ∀ x ∈ A, ∀ y ∈ B, x.1 ≤ y.1 := List.pairwise_append
theorem Srt.le {A : List Pr} (h : Srt A) {i j : Nat} (hij : i ≤ j) (hj : j < A.length) : (A[i]'(by omega)).1 ≤ (A[j]'hj).1 := by
  by_cases e : i = j
  · subst e; exact Int.le_refl _
  · exact List.pairwise_iff_getElem.1 h i j (by omega) hj (by omega)
/-! Data. -/
def Dat (o : Nat) (M : Mem) (L : List Pr) : Prop := M.get o = some ⟨L.flatMap encP, .grow 2⟩
section
variable {M M' : Mem} {o : Nat} {L L1 L2 L3 : List Pr} {x y : Pr}
theorem Dat.rd (h : Dat o M L) {i : Nat} (hi : i < L.length) : M.ldI .u64 o (i * 2) = some (L[i]'hi).1 ∧ M.ldI .u64 o (i * 2 + 1) = some (L[i]'hi).2 := by
  have g := fun f hf => flatMap_get (s := 2) encP2 L i f hi hf
  refine ⟨ldI_ld.2 ?_, ldI_ld.2 ?_⟩
  · rw [ld_grow h]; exact g 0 (by omega)
  · rw [ld_grow h]; exact g 1 (by omega)
theorem Dat.rdA (h : Dat o M (L1 ++ x :: L2)) {i : Nat} (hi : i = L1.length) : M.ldI .u64 o (i * 2) = some x.1 ∧ M.ldI .u64 o (i * 2 + 1) = some x.2 := by
  subst hi
  have := h.rd (i := L1.length) (by simp)
  simpa using this
theorem Dat.wr (h : Dat o M (L1 ++ x :: L2)) (y : Pr) {i : Nat} (hi : i = L1.length) : ∃ M', M.st o (i * 2) [.int .u64 y.1, .int .u64 y.2] = some M' ∧ Dat o M' (L1 ++ y :: L2) ∧ M'.n = M.n ∧ Mem.But (· = o) M M' := by
  subst hi
  have hl : L1.length * 2 + 2 ≤ ((L1 ++ x :: L2).flatMap encP).length := by rw [flatMap_length encP2]; simp; omega
  have s1 := st_grow (i := L1.length * 2) (vs := [.int .u64 y.1, .int .u64 y.2]) h hl
  have e := flatMap_set encP2 (by omega) (L1 ++ x :: L2) L1.length y (by simp)
  have e2 : (L1 ++ x :: L2).set L1.length y = L1 ++ y :: L2 := by rw [List.set_append_right _ _ (Nat.le_refl _), Nat.sub_self, List.set_cons_zero]
  have e3 : overL ((L1 ++ x :: L2).flatMap encP) (L1.length * 2) [.int .u64 y.1, .int .u64 y.2] = (L1 ++ y :: L2).flatMap encP := by rw [← e2, e]; rfl
  rw [e3] at s1
  exact ⟨_, s1, get_put_self (Mem.get_lt h), rfl, Mem.But.put _ _ _⟩
/-- Two things are exchanged. -/
theorem Dat.swap (h : Dat o M (L1 ++ x :: (L2 ++ y :: L3))) {i j : Nat} (hi : i = L1.length) (hj : j = L1.length + 1 + L2.length) :
    (∃ M1 M2, M.st o (i * 2) [.int .u64 y.1, .int .u64 y.2] = some M1 ∧ M1.st o (j * 2) [.int .u64 x.1, .int .u64 x.2] = some M2 ∧ Dat o M2 (L1 ++ y :: (L2 ++ x :: L3)) ∧ M2.n = M.n ∧ Mem.But (· = o) M M2) ∧
    (∃ M1 M2, M.st o (j * 2) [.int .u64 x.1, .int .u64 x.2] = some M1 ∧ M1.st o (i * 2) [.int .u64 y.1, .int .u64 y.2] = some M2 ∧ Dat o M2 (L1 ++ y :: (L2 ++ x :: L3)) ∧ M2.n = M.n ∧ Mem.But (· = o) M M2) := by
  have r1 : ∀ z : Pr, ∀ w : Pr, L1 ++ z :: (L2 ++ w :: L3) = (L1 ++ z :: L2) ++ w :: L3 := fun z w => by simp
  constructor
  · obtain ⟨M1, s1, d1, n1, b1⟩ := h.wr y hi
    rw [r1] at d1
    obtain ⟨M2, s2, d2, n2, b2⟩ := d1.wr x (i := j) (by simp; omega)
    rw [← r1] at d2
    exact ⟨M1, M2, s1, s2, d2, by omega, b1.trans b2 (fun _ _ h => h)⟩
  · have h' := h
    rw [r1] at h'
    obtain ⟨M1, s1, d1, n1, b1⟩ := h'.wr x (i := j) (by simp; omega)
    rw [← r1] at d1
    obtain ⟨M2, s2, d2, n2, b2⟩ := d1.wr y hi
    exact ⟨M1, M2, s1, s2, d2, by omega, b1.trans b2 (fun _ _ h => h)⟩
theorem Dat.upto (h : Dat o M L) (hu : M.Upto M') : Dat o M' L := hu.get h
/-- Which comes first. -/
theorem cmp_C (x y : Pr) (M : Mem) : ∃ M' r, C 19 [.agg [.int .u64 x.1, .int .u64 x.2], .agg [.int .u64 y.1, .int .u64 y.2]] M = some (.int .i64 r, M') ∧ M.Upto M' ∧ decide (r < 0) = decide (x.1 < y.1) := by
  have hE := p19_0_eq C prog.meth x.1 x.2 y.1 y.2 M
  obtain ⟨M1, e1, g1, u1, n1⟩ := alloc_at M ⟨[.int .u64 x.1, .int .u64 x.2], .fixed⟩
  obtain ⟨M2, e2, g2, u2, n2⟩ := alloc_at M1 ⟨[.int .u64 y.1, .int .u64 y.2], .fixed⟩
  have h22 : ∀ k : Int, C 22 [.int .u64 k] Mem.empty = some (.bool false, Mem.empty) := fun k => by
    have := p22_0_eq C prog.meth k Mem.empty
    rw [bne_self_eq_false] at this
    exact c22 this
  have h20 : ∃ r M', C 20 [.int .u64 x.1, .int .u64 y.1] Mem.empty = some (.int .i64 r, M') ∧ decide (r < 0) = decide (x.1 < y.1) := by
    have hF := p20_0_eq C prog.meth x.1 y.1 Mem.empty
    rw [h22, Option.bind_some] at hF
    simp only [Option.bind_some, List.getElem?_cons_zero, List.getElem?_cons_succ, int?_int, AVal.bool?, AVal.ptr?, AVal.sl?, AVal.tup?, AVal.agg?, AVal.ifc?, AVal.fn?, AVal.str?, List.head?_cons, List.tail_cons, List.isEmpty_nil, cond_true, cond_false, Option.isNone_some, Option.isNone_none, Bool.not_true, Bool.not_false, decide_true, decide_false, beq_self_eq_true, bne_self_eq_false, Int.reduceBEq, Int.reduceBNe, Int.cast_ofNat_Int] at hF
    rw [h22, Option.bind_some] at hF
    simp only [Option.bind_some, List.getElem?_cons_zero, List.getElem?_cons_succ, int?_int, AVal.bool?, AVal.ptr?, AVal.sl?, AVal.tup?, AVal.agg?, AVal.ifc?, AVal.fn?, AVal.str?, List.head?_cons, List.tail_cons, List.isEmpty_nil, cond_true, cond_false, Option.isNone_some, Option.isNone_none, Bool.not_true, Bool.not_false, decide_true, decide_false, beq_self_eq_true, bne_self_eq_false, Int.reduceBEq, Int.reduceBNe, Int.cast_ofNat_Int] at hF
    by_cases q1 : x.1 < y.1
    · simp only [q1, decide_true, cond_true] at hF
      exact ⟨-1, _, c20 hF, by simp [q1]⟩
    · by_cases q2 : x.1 > y.1
      · simp only [q1, q2, decide_true, decide_false, cond_true, cond_false] at hF
        exact ⟨1, _, c20 hF, by simp [q1]⟩
      · simp only [q1, q2, decide_false, cond_false] at hF
        exact ⟨0, _, c20 hF, by simp [q1]⟩
  obtain ⟨r, Mr, c20, hr⟩ := h20
  simp only [e1, e2, ldI_at (u2.get g1), ldI_at g2, Option.bind_some, List.getElem?_cons_zero, List.getElem?_cons_succ, int?_int, AVal.bool?, AVal.ptr?, AVal.sl?, AVal.tup?, AVal.agg?, AVal.ifc?, AVal.fn?, AVal.str?, List.head?_cons, List.tail_cons, List.isEmpty_nil, cond_true, cond_false, Option.isNone_some, Option.isNone_none, Bool.not_true, Bool.not_false, decide_true, decide_false, beq_self_eq_true, bne_self_eq_false, Int.reduceBEq, Int.reduceBNe, Int.cast_ofNat_Int] at hE
  rw [c20, Option.bind_some] at hE
  simp only [Option.bind_some, List.getElem?_cons_zero, List.getElem?_cons_succ, int?_int, AVal.bool?, AVal.ptr?, AVal.sl?, AVal.tup?, AVal.agg?, AVal.ifc?, AVal.fn?, AVal.str?, List.head?_cons, List.tail_cons, List.isEmpty_nil, cond_true, cond_false, Option.isNone_some, Option.isNone_none, Bool.not_true, Bool.not_false, decide_true, decide_false, beq_self_eq_true, bne_self_eq_false, Int.reduceBEq, Int.reduceBNe, Int.cast_ofNat_Int] at hE
  exact ⟨M2, r, c19 hE, u1.trans u2, hr⟩
abbrev cmpF : AVal := .fn (some 19) [] []
abbrev slD (o l : Nat) : AVal := .sl (some (o, 0)) l (.unk 0)
theorem i64n {n : Nat} (h : n < 2 ^ 60) : IntKind.wrap .i64 (n : Int) = n := wrap_i64 (by omega) (by omega)
theorem i64add {m n : Nat} (h : m + n < 2 ^ 60) : IntKind.wrap .i64 ((m : Int) + n) = ((m + n : Nat) : Int) := by rw [wrap_i64 (by omega) (by omega)]; omega
theorem i64sub {m n : Nat} (h : n ≤ m) (h2 : m < 2 ^ 60) : IntKind.wrap .i64 ((m : Int) - n) = ((m - n : Nat) : Int) := by rw [wrap_i64 (by omega) (by omega)]; omega
theorem half {m n : Nat} (h : m + n < 2 ^ 60) : IntKind.wrap .i64 (Int.fdiv (IntKind.wrap .u64 (IntKind.wrap .i64 ((m : Int) + n))) (2 ^ Nat.min 1 (IntKind.bits .u64))) = (((m + n) / 2 : Nat) : Int) := by
  rw [i64add h, wu64]
  have e : ((m + n : Nat) : Int) % 18446744073709551616 = ((m + n : Nat) : Int) := by omega
  rw [e]
  have e2 : (2 : Int) ^ Nat.min 1 (IntKind.bits .u64) = 2 := by decide
  rw [e2]
  have e3 : Int.fdiv ((m + n : Nat) : Int) 2 = (((m + n) / 2 : Nat) : Int) := by
    rw [Int.fdiv_eq_ediv_of_nonneg _ (by omega)]; omega
  rw [e3, i64n (by omega)]
/-- slices.insertionSortCmpFunc: one thing finds its place. -/
theorem ins_loop {P Q R : List Pr} {l : Nat} {i bb : Int} {x : Pr} (hl60 : l < 2 ^ 40) :
    ∀ (n : Nat) (A B : List Pr) (M : Mem), A.length = n → Srt (A ++ B) → (∀ y ∈ B, x.1 < y.1) → l = (P ++ (A ++ x :: B ++ R) ++ Q).length → Dat o M (P ++ (A ++ x :: B ++ R) ++ Q) →
    ∃ M' S, p23_2 C prog.meth (some (o, 0)) l (.unk 0) (P.length : Int) bb (some 19) [] [] i ((P.length + A.length : Nat) : Int) M = p23_1 C prog.meth (some (o, 0)) l (.unk 0) (P.length : Int) bb (some 19) [] [] (IntKind.wrap .i64 (i + 1)) M' ∧ Dat o M' (P ++ (S ++ R) ++ Q) ∧ S.length = A.length + 1 + B.length ∧ Srt S ∧ St (A ++ x :: B) S ∧ Mem.But (· = o) M M' := by
  intro n
  induction n with
  | zero =>
    intro A B M hA hs hx hl hd
    obtain rfl : A = [] := List.length_eq_zero_iff.1 hA
    have hE := p23_2_eq C prog.meth (some (o, 0)) l (.unk 0) (P.length : Int) bb (some 19) [] [] i ((P.length + 0 : Nat) : Int) M
    have q : ¬ (((P.length + 0 : Nat) : Int) > (P.length : Int)) := by omega
    simp only [q, decide_false, cond_false] at hE
    refine ⟨M, x :: B, hE, hd, by simp; omega, List.pairwise_cons.2 ⟨fun y hy => by have := hx y hy; omega, hs⟩, St.refl _, Mem.But.refl _ _⟩
  | succ n ih =>
    intro A B M hA hs hx hl hd
    obtain ⟨A', y, rfl⟩ : ∃ A' y, A = A' ++ [y] := ⟨A.dropLast, A.getLast (by intro e; rw [e] at hA; simp at hA), (List.dropLast_concat_getLast _).symm⟩
    simp only [List.length_append, List.length_singleton] at hA
    have hE := p23_2_eq C prog.meth (some (o, 0)) l (.unk 0) (P.length : Int) bb (some 19) [] [] i ((P.length + (A' ++ [y]).length : Nat) : Int) M
    have hj : P.length + (A' ++ [y]).length = P.length + A'.length + 1 := by simp; omega
    rw [hj] at hE ⊢
    have hl' : l = P.length + A'.length + 2 + B.length + R.length + Q.length := by rw [hl]; simp; omega
    obtain ⟨j, hjd⟩ : ∃ j, P.length + A'.length = j := ⟨_, rfl⟩
    rw [hjd] at hE ⊢
    have q : (((j + 1 : Nat) : Int) > (P.length : Int)) := by omega
    have c0 : (0 : Int) ≤ ((j + 1 : Nat) : Int) := by omega
    have c1 : Nat.blt (j + 1) l = true := Mem.blt_iff.2 (by omega)
    have c2 : Nat.blt j l = true := Mem.blt_iff.2 (by omega)
    have c3 : (0 : Int) ≤ (j : Int) := by omega
    have hw : IntKind.wrap .i64 (((j + 1 : Nat) : Int) - 1) = (j : Int) := by rw [wrap_i64 (by omega) (by omega)]; omega
    have hsp : slPtr (some (o, 0)) (.unk 0) = some (o, 0) := rfl
    have e0 : P ++ ((A' ++ [y]) ++ x :: B ++ R) ++ Q = (P ++ A') ++ y :: ([] ++ x :: (B ++ R ++ Q)) := by simp
    rw [e0] at hd
    have r1 := hd.rdA (i := j) (by simp; omega)
    have hd' : Dat o M ((P ++ A' ++ [y]) ++ x :: (B ++ R ++ Q)) := by simpa using hd
    have r2 := hd'.rdA (i := j + 1) (by simp; omega)
    obtain ⟨M1, r, k1, k2, k3⟩ := cmp_C x y M
    simp only [Option.bind_some, List.getElem?_cons_zero, List.getElem?_cons_succ, int?_int, AVal.bool?, AVal.ptr?, AVal.sl?, AVal.tup?, AVal.agg?, AVal.ifc?, AVal.fn?, AVal.str?, List.head?_cons, List.tail_cons, List.isEmpty_nil, cond_true, cond_false, Option.isNone_some, Option.isNone_none, Bool.not_true, Bool.not_false, decide_true, decide_false, beq_self_eq_true, bne_self_eq_false, Int.reduceBEq, Int.reduceBNe, Int.cast_ofNat_Int, q, c0, c1, c2, c3, Int.toNat_natCast, hsp, Nat.zero_add, r1.1, r1.2, r2.1, r2.2, hw, List.nil_append, List.append_nil] at hE
    rw [k1, Option.bind_some] at hE
    simp only [Option.bind_some, List.getElem?_cons_zero, List.getElem?_cons_succ, int?_int, AVal.bool?, AVal.ptr?, AVal.sl?, AVal.tup?, AVal.agg?, AVal.ifc?, AVal.fn?, AVal.str?, List.head?_cons, List.tail_cons, List.isEmpty_nil, cond_true, cond_false, Option.isNone_some, Option.isNone_none, Bool.not_true, Bool.not_false, decide_true, decide_false, beq_self_eq_true, bne_self_eq_false, Int.reduceBEq, Int.reduceBNe, Int.cast_ofNat_Int, k3] at hE
    obtain ⟨hs1, hs2, hs3⟩ := Srt.app.1 hs
    obtain ⟨hs4, hs5, hs6⟩ := Srt.app.1 hs1
    by_cases h1 : x.1 < y.1
    · simp only [h1, decide_true, cond_true] at hE
      have hE3 := p23_3_eq C prog.meth (some (o, 0)) l (.unk 0) (P.length : Int) bb (some 19) [] [] i ((j + 1 : Nat) : Int) M1
      have d1 := hd.upto k2
      have r1' := d1.rdA (i := j) (by simp; omega)
      have r2' := (hd'.upto k2).rdA (i := j + 1) (by simp; omega)
      obtain ⟨_, M2, M3, s1, s2, d3, n3, b3⟩ := d1.swap (i := j) (j := j + 1) (by simp; omega) (by simp; omega)
      simp only [Option.bind_some, List.getElem?_cons_zero, List.getElem?_cons_succ, int?_int, AVal.bool?, AVal.ptr?, AVal.sl?, AVal.tup?, AVal.agg?, AVal.ifc?, AVal.fn?, AVal.str?, List.head?_cons, List.tail_cons, List.isEmpty_nil, cond_true, cond_false, Option.isNone_some, Option.isNone_none, Bool.not_true, Bool.not_false, decide_true, decide_false, beq_self_eq_true, bne_self_eq_false, Int.reduceBEq, Int.reduceBNe, Int.cast_ofNat_Int, c0, c1, c2, c3, Int.toNat_natCast, hsp, Nat.zero_add, hw, r1'.1, r1'.2, r2'.1, r2'.2, s1, s2] at hE3
      have e1 : (P ++ A') ++ x :: ([] ++ y :: (B ++ R ++ Q)) = P ++ (A' ++ x :: (y :: B) ++ R) ++ Q := by simp
      rw [e1] at d3
      obtain ⟨M', S, t1, t2, t3, t4, t5, t6⟩ := ih A' (y :: B) M3 (by omega) (by
        have : A' ++ y :: B = (A' ++ [y]) ++ B := by simp
        rw [this]; exact hs) (fun z hz => by
        rcases List.mem_cons.1 hz with rfl | hz
        · exact h1
        · exact hx z hz) (by rw [hl']; simp; omega) d3
      rw [hjd] at t1
      refine ⟨M', S, hE.trans (hE3.trans t1), t2, by rw [t3]; simp; omega, t4, St.trans ?_ t5, (k2.but _).trans (b3.trans t6 (fun _ _ h => h)) (fun _ _ h => h)⟩
      have : (A' ++ [y]) ++ x :: B = A' ++ (([y] ++ [x]) ++ B) := by simp
      rw [this, show A' ++ x :: (y :: B) = A' ++ (([x] ++ [y]) ++ B) by simp]
      exact (St.refl _).app ((St.swap (fun u hu v hv => by
        obtain rfl : u = y := by simpa using hu
        obtain rfl : v = x := by simpa using hv
        omega)).app (St.refl _))
    · simp only [h1, decide_false, cond_false] at hE
      refine ⟨M1, (A' ++ [y]) ++ x :: B, hE, by rw [e0]; exact hd.upto k2, by simp; omega, Srt.app.2 ⟨hs1, List.pairwise_cons.2 ⟨fun z hz => by have := hx z hz; omega, hs2⟩, fun z hz w hw => ?_⟩, St.refl _, k2.but _⟩
      rcases List.mem_cons.1 hw with rfl | hw
      · rcases List.mem_append.1 hz with hz | hz
        · have := hs6 z hz y (by simp); omega
        · obtain rfl : z = y := by simpa using hz
          omega
      · exact hs3 z hz w hw
theorem ins_outer {P Q : List Pr} {l : Nat} {b : Nat} (hl60 : l < 2 ^ 40) :
    ∀ (d : Nat) (S R : List Pr) (M : Mem), R.length = d → 0 < S.length → Srt S → l = (P ++ (S ++ R) ++ Q).length → b = P.length + (S ++ R).length → Dat o M (P ++ (S ++ R) ++ Q) →
    ∃ M' S', p23_1 C prog.meth (some (o, 0)) l (.unk 0) (P.length : Int) (b : Int) (some 19) [] [] ((P.length + S.length : Nat) : Int) M = some (.tup [], M') ∧ Dat o M' (P ++ S' ++ Q) ∧ S'.length = (S ++ R).length ∧ Srt S' ∧ St (S ++ R) S' ∧ Mem.But (· = o) M M' := by
  intro d
  induction d with
  | zero =>
    intro S R M hR h0 hs hl hb hd
    obtain rfl : R = [] := List.length_eq_zero_iff.1 hR
    have hE := p23_1_eq C prog.meth (some (o, 0)) l (.unk 0) (P.length : Int) (b : Int) (some 19) [] [] ((P.length + S.length : Nat) : Int) M
    have q : ¬ (((P.length + S.length : Nat) : Int) < (b : Int)) := by rw [hb]; simp
    simp only [q, decide_false, cond_false] at hE
    rw [List.append_nil] at hd ⊢
    exact ⟨M, S, hE, hd, rfl, hs, St.refl _, Mem.But.refl _ _⟩
  | succ d ih =>
    intro S R M hR h0 hs hl hb hd
    obtain ⟨x, R', rfl⟩ : ∃ x R', R = x :: R' := by
      cases R with
      | nil => simp at hR
      | cons x R' => exact ⟨x, R', rfl⟩
    simp only [List.length_cons] at hR
    have hE := p23_1_eq C prog.meth (some (o, 0)) l (.unk 0) (P.length : Int) (b : Int) (some 19) [] [] ((P.length + S.length : Nat) : Int) M
    have q : (((P.length + S.length : Nat) : Int) < (b : Int)) := by rw [hb]; simp; omega
    simp only [q, decide_true, cond_true] at hE
    have e0 : P ++ (S ++ x :: R') ++ Q = P ++ (S ++ x :: [] ++ R') ++ Q := by simp
    rw [e0] at hd
    obtain ⟨M1, S1, t1, t2, t3, t4, t5, t6⟩ := ins_loop (P := P) (Q := Q) (R := R') (i := ((P.length + S.length : Nat) : Int)) (bb := (b : Int)) (x := x) hl60 S.length S [] M rfl (by simpa using hs) (by simp) (by rw [hl]; simp) hd
    have hll : l = P.length + S.length + 1 + R'.length + Q.length := by rw [hl]; simp; omega
    have hw : IntKind.wrap .i64 (((P.length + S.length : Nat) : Int) + 1) = ((P.length + S1.length : Nat) : Int) := by
      rw [wrap_i64 (by omega) (by omega)]
      simp at t3; omega
    rw [hw] at t1
    simp only [List.length_nil, Nat.add_zero] at t3
    obtain ⟨M', S', w1, w2, w3, w4, w5, w6⟩ := ih S1 R' M1 (by omega) (by omega) t4 (by rw [hl]; simp; omega) (by rw [hb]; simp; omega) t2
    refine ⟨M', S', hE.trans (t1.trans w1), w2, by rw [w3]; simp; omega, w4, St.trans ?_ w5, t6.trans w6 (fun _ _ h => h)⟩
    have : S ++ x :: R' = (S ++ x :: []) ++ R' := by simp
    rw [this]
    exact t5.app (St.refl _)
theorem Ins_C {P S Q : List Pr} {l b : Nat} (hl60 : l < 2 ^ 40) (hl : l = (P ++ S ++ Q).length) (hb : b = P.length + S.length) (hd : Dat o M (P ++ S ++ Q)) :
    ∃ M' S', C 23 [slD o l, .int .i64 (P.length : Int), .int .i64 (b : Int), cmpF] M = some (.tup [], M') ∧ Dat o M' (P ++ S' ++ Q) ∧ S'.length = S.length ∧ Srt S' ∧ St S S' ∧ Mem.But (· = o) M M' := by
  have hE := p23_0_eq C prog.meth (some (o, 0)) l (.unk 0) (P.length : Int) (b : Int) (some 19) [] [] M
  have hll : l = P.length + S.length + Q.length := by rw [hl]; simp; omega
  have hw : IntKind.wrap .i64 ((P.length : Int) + 1) = ((P.length + 1 : Nat) : Int) := by rw [wrap_i64 (by omega) (by omega)]; omega
  rw [hw] at hE
  cases S with
  | nil =>
    have hE1 := p23_1_eq C prog.meth (some (o, 0)) l (.unk 0) (P.length : Int) (b : Int) (some 19) [] [] ((P.length + 1 : Nat) : Int) M
    have q : ¬ (((P.length + 1 : Nat) : Int) < (b : Int)) := by rw [hb]; simp; omega
    simp only [q, decide_false, cond_false] at hE1
    exact ⟨M, [], c23 (hE.trans hE1), hd, rfl, List.Pairwise.nil, St.refl _, Mem.But.refl _ _⟩
  | cons x R =>
    obtain ⟨M', S', w1, w2, w3, w4, w5, w6⟩ := ins_outer (P := P) (Q := Q) (b := b) hl60 R.length [x] R M rfl (by simp) (List.pairwise_singleton _ _) (by rw [hl]; simp) (by rw [hb]; simp) (by simpa using hd)
    exact ⟨M', S', c23 (hE.trans w1), w2, by rw [w3]; simp, w4, by simpa using w5, w6⟩
end
end Go.Proofs.Ytlglggcheffoeaa.M
