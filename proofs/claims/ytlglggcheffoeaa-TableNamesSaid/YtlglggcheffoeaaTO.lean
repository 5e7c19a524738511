/- slices.SortStableFunc: all; table.Of. -/
import Derived.Test.YtlglggcheffoeaaTG
set_option linter.unusedVariables false
set_option linter.unusedSimpArgs false
set_option linter.unnecessarySimpa false
set_option maxRecDepth 100000
namespace Go.Proofs.Ytlglggcheffoeaa.M
open Go.Abs Go.RowKit

inductive Blk (bs : Nat) : List Pr → Prop
  | short {R : List Pr} (h : Srt R) (hl : R.length ≤ bs) : Blk bs R
  | cons {A R : List Pr} (h : Srt A) (hl : A.length = bs) (hr : Blk bs R) : Blk bs (A ++ R)
inductive Full (bs : Nat) : List Pr → Prop
  | nil : Full bs []
  | snoc {D A : List Pr} (h : Full bs D) (hs : Srt A) (hl : A.length = bs) : Full bs (D ++ A)
theorem Full.blk {bs : Nat} {D : List Pr} (h : Full bs D) : ∀ {R : List Pr}, Blk bs R → Blk bs (D ++ R) := by
  induction h with
  | nil => exact fun h => h
  | snoc h hs hl ih =>
    intro R hR
    rw [List.append_assoc]
    exact ih (.cons hs hl hR)
theorem blk_two {bs : Nat} {R : List Pr} (h : Blk bs R) (h0 : 0 < bs) (h2 : 2 * bs ≤ R.length) : ∃ A B R2, R = A ++ (B ++ R2) ∧ A.length = bs ∧ B.length = bs ∧ Srt A ∧ Srt B ∧ Blk bs R2 := by
  cases h with
  | short h hl => omega
  | @cons A R1 hA hl hr =>
    simp only [List.length_append] at h2
    cases hr with
    | short h hl2 => exact ⟨A, R1, [], by simp, hl, by omega, hA, h, .short List.Pairwise.nil (by simp)⟩
    | @cons B R2 hB hlB hr2 => exact ⟨A, B, R2, rfl, hl, hlB, hA, hB, hr2⟩
theorem blk_more {bs : Nat} {R : List Pr} (h : Blk bs R) (h1 : bs < R.length) (h2 : R.length < 2 * bs) : ∃ A B, R = A ++ B ∧ A.length = bs ∧ 0 < B.length ∧ Srt A ∧ Srt B := by
  cases h with
  | short h hl => omega
  | @cons A R1 hA hl hr =>
    simp only [List.length_append] at h1 h2
    cases hr with
    | short h hl2 => exact ⟨A, R1, rfl, hl, by omega, hA, h⟩
    | @cons B R2 hB hlB hr2 => simp only [List.length_append] at h2; omega
theorem blk_le {bs : Nat} {R : List Pr} (h : Blk bs R) (h0 : 0 < bs) (h1 : R.length ≤ bs) : Srt R := by
  cases h with
  | short h hl => exact h
  | @cons A R1 hA hl hr =>
    simp only [List.length_append] at h1
    obtain rfl : R1 = [] := List.length_eq_zero_iff.1 (by omega)
    rw [List.append_nil]; exact hA
section
variable {M M' : Mem} {o l : Nat}
theorem st1 (hl60 : l < 2 ^ 40) : ∀ (N : Nat) (D R : List Pr) (M : Mem), R.length ≤ N → Full 20 D → l = (D ++ R).length → Dat o M (D ++ R) →
    ∃ M' L', p21_1 C prog.meth (some (o, 0)) l (.unk 0) (l : Int) (some 19) [] [] 20 (D.length : Int) ((D.length + 20 : Nat) : Int) M = p21_2 C prog.meth (some (o, 0)) l (.unk 0) (l : Int) (some 19) [] [] 20 M' ∧ Dat o M' L' ∧ L'.length = l ∧ Blk 20 L' ∧ St (D ++ R) L' ∧ Mem.But (· = o) M M' := by
  intro N
  induction N with
  | zero =>
    intro D R M hN hF hl hd
    obtain rfl : R = [] := List.length_eq_zero_iff.1 (by omega)
    have hE := p21_1_eq C prog.meth (some (o, 0)) l (.unk 0) (l : Int) (some 19) [] [] 20 (D.length : Int) ((D.length + 20 : Nat) : Int) M
    have hll : l = D.length := by rw [hl]; simp
    have q : ¬ (((D.length + 20 : Nat) : Int) ≤ (l : Int)) := by omega
    obtain ⟨M1, S', t1, t2, t3, t4, t5, t6⟩ := Ins_C (M := M) (o := o) (P := D) (S := []) (Q := []) (l := l) (b := l) hl60 (by rw [hl]; simp) (by simp; omega) (by simpa using hd)
    simp only [q, decide_false, cond_false] at hE
    rw [t1, Option.bind_some] at hE
    simp only [Option.bind_some, List.getElem?_cons_zero, List.getElem?_cons_succ, int?_int, AVal.bool?, AVal.ptr?, AVal.sl?, AVal.tup?, AVal.agg?, AVal.ifc?, AVal.fn?, AVal.str?, List.head?_cons, List.tail_cons, List.isEmpty_nil, cond_true, cond_false, Option.isNone_some, Option.isNone_none, Bool.not_true, Bool.not_false, decide_true, decide_false, beq_self_eq_true, bne_self_eq_false, Int.reduceBEq, Int.reduceBNe, Int.cast_ofNat_Int] at hE
    obtain rfl : S' = [] := List.length_eq_zero_iff.1 t3
    exact ⟨M1, D ++ [] ++ [], hE, t2, by simp; omega, by simpa using hF.blk (R := []) (.short List.Pairwise.nil (by simp)), by simpa using St.refl D, t6⟩
  | succ N ih =>
    intro D R M hN hF hl hd
    have hE := p21_1_eq C prog.meth (some (o, 0)) l (.unk 0) (l : Int) (some 19) [] [] 20 (D.length : Int) ((D.length + 20 : Nat) : Int) M
    have hll : l = D.length + R.length := by rw [hl]; simp
    by_cases q : (((D.length + 20 : Nat) : Int) ≤ (l : Int))
    · obtain ⟨A, R', rfl, hA⟩ : ∃ A R', R = A ++ R' ∧ A.length = 20 := ⟨R.take 20, R.drop 20, (List.take_append_drop _ _).symm, by simp; omega⟩
      simp only [List.length_append] at hN hll
      obtain ⟨M1, S', t1, t2, t3, t4, t5, t6⟩ := Ins_C (M := M) (o := o) (P := D) (S := A) (Q := R') (l := l) (b := D.length + 20) hl60 (by rw [hl]; simp) (by omega) (by simpa using hd)
      have w : IntKind.wrap .i64 (((D.length + 20 : Nat) : Int) + 20) = (((D ++ S').length + 20 : Nat) : Int) := by rw [wrap_i64 (by omega) (by omega)]; simp; omega
      simp only [q, decide_true, cond_true] at hE
      rw [t1, Option.bind_some] at hE
      simp only [Option.bind_some, List.getElem?_cons_zero, List.getElem?_cons_succ, int?_int, AVal.bool?, AVal.ptr?, AVal.sl?, AVal.tup?, AVal.agg?, AVal.ifc?, AVal.fn?, AVal.str?, List.head?_cons, List.tail_cons, List.isEmpty_nil, cond_true, cond_false, Option.isNone_some, Option.isNone_none, Bool.not_true, Bool.not_false, decide_true, decide_false, beq_self_eq_true, bne_self_eq_false, Int.reduceBEq, Int.reduceBNe, Int.cast_ofNat_Int, w] at hE
      obtain ⟨M2, L', r1, r2, r3, r4, r5, r6⟩ := ih (D ++ S') R' M1 (by omega) (hF.snoc t4 (by omega)) (by simp; omega) (by simpa using t2)
      rw [show (((D ++ S').length : Nat) : Int) = ((D.length + 20 : Nat) : Int) by simp; omega] at r1
      refine ⟨M2, L', hE.trans r1, r2, r3, r4, St.trans ?_ r5, t6.trans r6 (fun _ _ h => h)⟩
      rw [← List.append_assoc]
      exact ((St.refl D).app t5).app (St.refl _)
    · obtain ⟨M1, S', t1, t2, t3, t4, t5, t6⟩ := Ins_C (M := M) (o := o) (P := D) (S := R) (Q := []) (l := l) (b := l) hl60 (by rw [hl]; simp) hll (by simpa using hd)
      simp only [q, decide_false, cond_false] at hE
      rw [t1, Option.bind_some] at hE
      simp only [Option.bind_some, List.getElem?_cons_zero, List.getElem?_cons_succ, int?_int, AVal.bool?, AVal.ptr?, AVal.sl?, AVal.tup?, AVal.agg?, AVal.ifc?, AVal.fn?, AVal.str?, List.head?_cons, List.tail_cons, List.isEmpty_nil, cond_true, cond_false, Option.isNone_some, Option.isNone_none, Bool.not_true, Bool.not_false, decide_true, decide_false, beq_self_eq_true, bne_self_eq_false, Int.reduceBEq, Int.reduceBNe, Int.cast_ofNat_Int] at hE
      exact ⟨M1, D ++ S' ++ [], hE, t2, by simp; omega, by simpa using hF.blk (.short t4 (by omega)), by simpa using (St.refl D).app t5, t6⟩
theorem st3 (hl60 : l < 2 ^ 40) {bs : Nat} (h0 : 0 < bs) (hbs : bs < 2 ^ 45) : ∀ (N : Nat) (D R : List Pr) (M : Mem), R.length ≤ N → Full (2 * bs) D → Blk bs R → l = (D ++ R).length → Dat o M (D ++ R) →
    ∃ M' L', p21_3 C prog.meth (some (o, 0)) l (.unk 0) (l : Int) (some 19) [] [] (bs : Int) (D.length : Int) ((D.length + 2 * bs : Nat) : Int) M = p21_2 C prog.meth (some (o, 0)) l (.unk 0) (l : Int) (some 19) [] [] ((2 * bs : Nat) : Int) M' ∧ Dat o M' L' ∧ L'.length = l ∧ Blk (2 * bs) L' ∧ St (D ++ R) L' ∧ Mem.But (· = o) M M' := by
  intro N
  induction N with
  | zero =>
    intro D R M hN hF hB hl hd
    obtain rfl : R = [] := List.length_eq_zero_iff.1 (by omega)
    have hE := p21_3_eq C prog.meth (some (o, 0)) l (.unk 0) (l : Int) (some 19) [] [] (bs : Int) (D.length : Int) ((D.length + 2 * bs : Nat) : Int) M
    have hll : l = D.length := by rw [hl]; simp
    have q : ¬ (((D.length + 2 * bs : Nat) : Int) ≤ (l : Int)) := by omega
    have w1 : IntKind.wrap .i64 ((D.length : Int) + (bs : Int)) = ((D.length + bs : Nat) : Int) := i64add (by omega)
    have q2 : ¬ (((D.length + bs : Nat) : Int) < (l : Int)) := by omega
    have w2 : IntKind.wrap .i64 ((bs : Int) * 2) = ((2 * bs : Nat) : Int) := by rw [wrap_i64 (by omega) (by omega)]; omega
    simp only [q, w1, q2, w2, decide_false, cond_false] at hE
    exact ⟨M, D ++ [], hE, hd, by simp; omega, hF.blk (.short List.Pairwise.nil (by simp)), St.refl _, Mem.But.refl _ _⟩
  | succ N ih =>
    intro D R M hN hF hB hl hd
    have hE := p21_3_eq C prog.meth (some (o, 0)) l (.unk 0) (l : Int) (some 19) [] [] (bs : Int) (D.length : Int) ((D.length + 2 * bs : Nat) : Int) M
    have hll : l = D.length + R.length := by rw [hl]; simp
    have w1 : IntKind.wrap .i64 ((D.length : Int) + (bs : Int)) = ((D.length + bs : Nat) : Int) := i64add (by omega)
    have w2 : IntKind.wrap .i64 ((bs : Int) * 2) = ((2 * bs : Nat) : Int) := by rw [wrap_i64 (by omega) (by omega)]; omega
    by_cases q : (((D.length + 2 * bs : Nat) : Int) ≤ (l : Int))
    · obtain ⟨A, B, R2, rfl, lA, lB, sA, sB, hB2⟩ := blk_two hB h0 (by omega)
      simp only [List.length_append] at hN hll
      obtain ⟨M1, S', t1, t2, t3, t4, t5, t6⟩ := SymM_C (o := o) hl60 (A.length + B.length) D A B R2 M D.length (D.length + bs) (D.length + 2 * bs) (Nat.le_refl _) (by omega) (by omega) sA sB rfl (by omega) (by omega) (by rw [hl]; simp) (by simpa using hd)
      have w3 : IntKind.wrap .i64 (((D.length + 2 * bs : Nat) : Int) + IntKind.wrap .i64 (2 * (bs : Int))) = (((D ++ S').length + 2 * bs : Nat) : Int) := by
        rw [wrap_i64 (n := 2 * (bs : Int)) (by omega) (by omega), wrap_i64 (by omega) (by omega)]; simp; omega
      simp only [q, decide_true, cond_true, w1, w3] at hE
      rw [t1, Option.bind_some] at hE
      simp only [Option.bind_some, List.getElem?_cons_zero, List.getElem?_cons_succ, int?_int, AVal.bool?, AVal.ptr?, AVal.sl?, AVal.tup?, AVal.agg?, AVal.ifc?, AVal.fn?, AVal.str?, List.head?_cons, List.tail_cons, List.isEmpty_nil, cond_true, cond_false, Option.isNone_some, Option.isNone_none, Bool.not_true, Bool.not_false, decide_true, decide_false, beq_self_eq_true, bne_self_eq_false, Int.reduceBEq, Int.reduceBNe, Int.cast_ofNat_Int] at hE
      obtain ⟨M2, L', r1, r2, r3, r4, r5, r6⟩ := ih (D ++ S') R2 M1 (by omega) (hF.snoc t4 (by omega)) hB2 (by simp; omega) (by simpa using t2)
      rw [show (((D ++ S').length : Nat) : Int) = ((D.length + 2 * bs : Nat) : Int) by simp; omega] at r1
      refine ⟨M2, L', hE.trans r1, r2, r3, r4, St.trans ?_ r5, t6.trans r6 (fun _ _ h => h)⟩
      have : D ++ (A ++ (B ++ R2)) = (D ++ (A ++ B)) ++ R2 := by simp
      rw [this]
      exact ((St.refl D).app t5).app (St.refl _)
    · by_cases q2 : (((D.length + bs : Nat) : Int) < (l : Int))
      · obtain ⟨A, B, rfl, lA, lB, sA, sB⟩ := blk_more hB (by omega) (by omega)
        simp only [List.length_append] at hN hll
        obtain ⟨M1, S', t1, t2, t3, t4, t5, t6⟩ := SymM_C (o := o) hl60 (A.length + B.length) D A B [] M D.length (D.length + bs) l (Nat.le_refl _) (by omega) (by omega) sA sB rfl (by omega) (by omega) (by rw [hl]; simp) (by simpa using hd)
        simp only [q, q2, decide_true, decide_false, cond_true, cond_false, w1, w2] at hE
        rw [t1, Option.bind_some] at hE
        simp only [Option.bind_some, List.getElem?_cons_zero, List.getElem?_cons_succ, int?_int, AVal.bool?, AVal.ptr?, AVal.sl?, AVal.tup?, AVal.agg?, AVal.ifc?, AVal.fn?, AVal.str?, List.head?_cons, List.tail_cons, List.isEmpty_nil, cond_true, cond_false, Option.isNone_some, Option.isNone_none, Bool.not_true, Bool.not_false, decide_true, decide_false, beq_self_eq_true, bne_self_eq_false, Int.reduceBEq, Int.reduceBNe, Int.cast_ofNat_Int] at hE
        exact ⟨M1, D ++ S' ++ [], hE, t2, by simp; omega, by simpa using hF.blk (.short t4 (by omega)), by simpa using (St.refl D).app t5, t6⟩
      · simp only [q, q2, decide_false, cond_false, w1, w2] at hE
        exact ⟨M, D ++ R, hE, hd, hl.symm, hF.blk (.short (blk_le hB h0 (by omega)) (by omega)), St.refl _, Mem.But.refl _ _⟩
theorem st2 (hl60 : l < 2 ^ 40) : ∀ (N bs : Nat) (L : List Pr) (M : Mem), l ≤ bs + N → 0 < bs → bs < 2 ^ 44 → Blk bs L → L.length = l → Dat o M L →
    ∃ M' S, p21_2 C prog.meth (some (o, 0)) l (.unk 0) (l : Int) (some 19) [] [] (bs : Int) M = some (.tup [], M') ∧ Dat o M' S ∧ S.length = l ∧ Srt S ∧ St L S ∧ Mem.But (· = o) M M' := by
  intro N
  induction N with
  | zero =>
    intro bs L M hN h0 hbs hB hl hd
    have hE := p21_2_eq C prog.meth (some (o, 0)) l (.unk 0) (l : Int) (some 19) [] [] (bs : Int) M
    have q : ¬ ((bs : Int) < (l : Int)) := by omega
    simp only [q, decide_false, cond_false] at hE
    exact ⟨M, L, hE, hd, hl, blk_le hB h0 (by omega), St.refl _, Mem.But.refl _ _⟩
  | succ N ih =>
    intro bs L M hN h0 hbs hB hl hd
    by_cases q : ((bs : Int) < (l : Int))
    · have hE := p21_2_eq C prog.meth (some (o, 0)) l (.unk 0) (l : Int) (some 19) [] [] (bs : Int) M
      have w : IntKind.wrap .i64 (2 * (bs : Int)) = ((2 * bs : Nat) : Int) := by rw [wrap_i64 (by omega) (by omega)]; omega
      simp only [q, decide_true, cond_true, w] at hE
      obtain ⟨M1, L', t1, t2, t3, t4, t5, t6⟩ := st3 (o := o) hl60 h0 (by omega) L.length [] L M (Nat.le_refl _) .nil hB (by simp [hl]) (by simpa using hd)
      simp only [List.length_nil, Nat.zero_add] at t1
      obtain ⟨M2, S, r1, r2, r3, r4, r5, r6⟩ := ih (2 * bs) L' M1 (by omega) (by omega) (by omega) t4 t3 t2
      exact ⟨M2, S, hE.trans (t1.trans r1), r2, r3, r4, St.trans (by simpa using t5) r5, t6.trans r6 (fun _ _ h => h)⟩
    · have hE := p21_2_eq C prog.meth (some (o, 0)) l (.unk 0) (l : Int) (some 19) [] [] (bs : Int) M
      simp only [q, decide_false, cond_false] at hE
      exact ⟨M, L, hE, hd, hl, blk_le hB h0 (by omega), St.refl _, Mem.But.refl _ _⟩
theorem Sort_C {L : List Pr} (hl60 : l < 2 ^ 40) (hl : L.length = l) (hd : Dat o M L) :
    ∃ M' S, C 18 [slD o l, cmpF] M = some (.tup [], M') ∧ Dat o M' S ∧ S.length = l ∧ Srt S ∧ St L S ∧ Mem.But (· = o) M M' := by
  have hE := p18_0_eq C prog.meth (some (o, 0)) l (.unk 0) (some 19) [] [] M
  have hF := p21_0_eq C prog.meth (some (o, 0)) l (.unk 0) (l : Int) (some 19) [] [] M
  obtain ⟨M1, L', t1, t2, t3, t4, t5, t6⟩ := st1 (o := o) hl60 L.length [] L M (Nat.le_refl _) .nil (by simp [hl]) (by simpa using hd)
  obtain ⟨M2, S, r1, r2, r3, r4, r5, r6⟩ := st2 (o := o) hl60 l 20 L' M1 (by omega) (by omega) (by omega) t4 t3 t2
  have c21 := c21 (hF.trans (t1.trans r1))
  rw [c21, Option.bind_some] at hE
  simp only [Option.bind_some, List.getElem?_cons_zero, List.getElem?_cons_succ, int?_int, AVal.bool?, AVal.ptr?, AVal.sl?, AVal.tup?, AVal.agg?, AVal.ifc?, AVal.fn?, AVal.str?, List.head?_cons, List.tail_cons, List.isEmpty_nil, cond_true, cond_false, Option.isNone_some, Option.isNone_none, Bool.not_true, Bool.not_false, decide_true, decide_false, beq_self_eq_true, bne_self_eq_false, Int.reduceBEq, Int.reduceBNe, Int.cast_ofNat_Int] at hE
  exact ⟨M2, S, c18 hE, r2, r3, r4, St.trans (by simpa using t5) r5, t6.trans r6 (fun _ _ h => h)⟩
theorem Sort0_C {a : Option (Nat × Nat)} {c : Cap} : C 18 [.sl a 0 c, cmpF] M = some (.tup [], M) := by
  have hE := p18_0_eq C prog.meth a 0 c (some 19) [] [] M
  have hF := p21_0_eq C prog.meth a 0 c ((0 : Nat) : Int) (some 19) [] [] M
  have hF1 := p21_1_eq C prog.meth a 0 c ((0 : Nat) : Int) (some 19) [] [] 20 0 20 M
  have hF2 := p21_2_eq C prog.meth a 0 c ((0 : Nat) : Int) (some 19) [] [] 20 M
  have hI := p23_0_eq C prog.meth a 0 c 0 ((0 : Nat) : Int) (some 19) [] [] M
  have hI1 := p23_1_eq C prog.meth a 0 c 0 ((0 : Nat) : Int) (some 19) [] [] (IntKind.wrap .i64 (0 + 1)) M
  have q1 : ¬ (IntKind.wrap .i64 (0 + 1) < ((0 : Nat) : Int)) := by decide
  have q2 : ¬ ((20 : Int) ≤ ((0 : Nat) : Int)) := by decide
  have q3 : ¬ ((20 : Int) < ((0 : Nat) : Int)) := by decide
  simp only [q1, decide_false, cond_false] at hI1
  have cI := c23 (hI.trans hI1)
  simp only [q2, decide_false, cond_false] at hF1
  rw [cI, Option.bind_some] at hF1
  simp only [Option.bind_some, List.getElem?_cons_zero, List.getElem?_cons_succ, int?_int, AVal.bool?, AVal.ptr?, AVal.sl?, AVal.tup?, AVal.agg?, AVal.ifc?, AVal.fn?, AVal.str?, List.head?_cons, List.tail_cons, List.isEmpty_nil, cond_true, cond_false, Option.isNone_some, Option.isNone_none, Bool.not_true, Bool.not_false, decide_true, decide_false, beq_self_eq_true, bne_self_eq_false, Int.reduceBEq, Int.reduceBNe, Int.cast_ofNat_Int] at hF1
  simp only [q3, decide_false, cond_false] at hF2
  rw [c21 (hF.trans (hF1.trans hF2)), Option.bind_some] at hE
  simp only [Option.bind_some, List.getElem?_cons_zero, List.getElem?_cons_succ, int?_int, AVal.bool?, AVal.ptr?, AVal.sl?, AVal.tup?, AVal.agg?, AVal.ifc?, AVal.fn?, AVal.str?, List.head?_cons, List.tail_cons, List.isEmpty_nil, cond_true, cond_false, Option.isNone_some, Option.isNone_none, Bool.not_true, Bool.not_false, decide_true, decide_false, beq_self_eq_true, bne_self_eq_false, Int.reduceBEq, Int.reduceBNe, Int.cast_ofNat_Int] at hE
  exact c18 hE
end
end Go.Proofs.Ytlglggcheffoeaa.M
