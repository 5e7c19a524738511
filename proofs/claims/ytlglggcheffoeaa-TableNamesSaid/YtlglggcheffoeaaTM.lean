/- slices.SortStableFunc: rotate, symMerge, blocks. -/
import Derived.Test.YtlglggcheffoeaaTS
set_option linter.unusedVariables false
set_option linter.unusedSimpArgs false
set_option linter.unnecessarySimpa false
set_option maxRecDepth 100000
namespace Go.Proofs.Ytlglggcheffoeaa.M
open Go.Abs Go.RowKit

section
variable {M M' : Mem} {o l : Nat}
theorem swapR_loop {P Y Q : List Pr} {n b : Nat} (hl60 : l < 2 ^ 40) :
    ∀ (d : Nat) (X2 Z2 X1 Z1 : List Pr) (M : Mem), X2.length = d → Z2.length = d → X1.length = Z1.length → n = Z1.length + d → b = P.length + n + Y.length → l = (P ++ (Z1 ++ X2) ++ Y ++ (X1 ++ Z2) ++ Q).length → Dat o M (P ++ (Z1 ++ X2) ++ Y ++ (X1 ++ Z2) ++ Q) →
    ∃ M', p26_1 C prog.meth (some (o, 0)) l (.unk 0) (P.length : Int) (b : Int) (n : Int) (Z1.length : Int) M = some (.tup [], M') ∧ Dat o M' (P ++ (Z1 ++ Z2) ++ Y ++ (X1 ++ X2) ++ Q) ∧ Mem.But (· = o) M M' := by
  intro d
  induction d with
  | zero =>
    intro X2 Z2 X1 Z1 M hX hZ h1 hn hb hl hd
    obtain rfl : X2 = [] := List.length_eq_zero_iff.1 hX
    obtain rfl : Z2 = [] := List.length_eq_zero_iff.1 hZ
    have hE := p26_1_eq C prog.meth (some (o, 0)) l (.unk 0) (P.length : Int) (b : Int) (n : Int) (Z1.length : Int) M
    have q : ¬ ((Z1.length : Int) < (n : Int)) := by omega
    simp only [q, decide_false, cond_false] at hE
    exact ⟨M, hE, hd, Mem.But.refl _ _⟩
  | succ d ih =>
    intro X2 Z2 X1 Z1 M hX hZ h1 hn hb hl hd
    obtain ⟨x, X2', rfl⟩ : ∃ x X2', X2 = x :: X2' := by
      cases X2 with
      | nil => simp at hX
      | cons x R' => exact ⟨x, R', rfl⟩
    obtain ⟨z, Z2', rfl⟩ : ∃ x X2', Z2 = x :: X2' := by
      cases Z2 with
      | nil => simp at hZ
      | cons x R' => exact ⟨x, R', rfl⟩
    simp only [List.length_cons] at hX hZ
    have hE := p26_1_eq C prog.meth (some (o, 0)) l (.unk 0) (P.length : Int) (b : Int) (n : Int) (Z1.length : Int) M
    have hll : l = P.length + Z1.length + 1 + X2'.length + Y.length + X1.length + 1 + Z2'.length + Q.length := by rw [hl]; simp; omega
    have q : ((Z1.length : Int) < (n : Int)) := by omega
    obtain ⟨i, hi⟩ : ∃ i, P.length + Z1.length = i := ⟨_, rfl⟩
    obtain ⟨j, hj⟩ : ∃ j, b + Z1.length = j := ⟨_, rfl⟩
    have w1 : IntKind.wrap .i64 ((P.length : Int) + (Z1.length : Int)) = (i : Int) := by rw [i64add (by omega), hi]
    have w2 : IntKind.wrap .i64 ((b : Int) + (Z1.length : Int)) = (j : Int) := by rw [i64add (by omega), hj]
    have w3 : IntKind.wrap .i64 ((Z1.length : Int) + 1) = ((Z1.length + 1 : Nat) : Int) := by rw [wrap_i64 (by omega) (by omega)]; omega
    have c0 : (0 : Int) ≤ (i : Int) := by omega
    have c1 : (0 : Int) ≤ (j : Int) := by omega
    have c2 : Nat.blt i l = true := Mem.blt_iff.2 (by omega)
    have c3 : Nat.blt j l = true := Mem.blt_iff.2 (by omega)
    have hsp : slPtr (some (o, 0)) (.unk 0) = some (o, 0) := rfl
    have e0 : P ++ (Z1 ++ x :: X2') ++ Y ++ (X1 ++ z :: Z2') ++ Q = (P ++ Z1) ++ x :: ((X2' ++ Y ++ X1) ++ z :: (Z2' ++ Q)) := by simp
    have e0' : P ++ (Z1 ++ x :: X2') ++ Y ++ (X1 ++ z :: Z2') ++ Q = (P ++ (Z1 ++ x :: X2') ++ Y ++ X1) ++ z :: (Z2' ++ Q) := by simp
    have hd1 := hd
    have hd2 := hd
    rw [e0] at hd1
    rw [e0'] at hd2
    have r1 := hd1.rdA (i := i) (by simp; omega)
    have r2 := hd2.rdA (i := j) (by simp; omega)
    obtain ⟨⟨M1, M2, s1, s2, d3, n3, b3⟩, _⟩ := hd1.swap (i := i) (j := j) (by simp; omega) (by simp; omega)
    simp only [Option.bind_some, List.getElem?_cons_zero, List.getElem?_cons_succ, int?_int, AVal.bool?, AVal.ptr?, AVal.sl?, AVal.tup?, AVal.agg?, AVal.ifc?, AVal.fn?, AVal.str?, List.head?_cons, List.tail_cons, List.isEmpty_nil, cond_true, cond_false, Option.isNone_some, Option.isNone_none, Bool.not_true, Bool.not_false, decide_true, decide_false, beq_self_eq_true, bne_self_eq_false, Int.reduceBEq, Int.reduceBNe, Int.cast_ofNat_Int, q, w1, w2, c0, c1, c2, c3, Int.toNat_natCast, hsp, Nat.zero_add, r1.1, r1.2, r2.1, r2.2, s1, s2, w3] at hE
    have e1 : (P ++ Z1) ++ z :: ((X2' ++ Y ++ X1) ++ x :: (Z2' ++ Q)) = P ++ ((Z1 ++ [z]) ++ X2') ++ Y ++ ((X1 ++ [x]) ++ Z2') ++ Q := by simp
    rw [e1] at d3
    obtain ⟨M', t1, t2, t3⟩ := ih X2' Z2' (X1 ++ [x]) (Z1 ++ [z]) M2 (by omega) (by omega) (by simp [h1]) (by simp; omega) hb (by rw [hll]; simp; omega) d3
    rw [show ((Z1 ++ [z]).length : Int) = ((Z1.length + 1 : Nat) : Int) by simp] at t1
    exact ⟨M', hE.trans t1, by simpa using t2, b3.trans t3 (fun _ _ h => h)⟩
theorem SwapR_C {P X Y Z Q : List Pr} {b : Nat} (hl60 : l < 2 ^ 40) (hXZ : X.length = Z.length) (hb : b = P.length + X.length + Y.length) (hl : l = (P ++ X ++ Y ++ Z ++ Q).length) (hd : Dat o M (P ++ X ++ Y ++ Z ++ Q)) :
    ∃ M', C 26 [slD o l, .int .i64 (P.length : Int), .int .i64 (b : Int), .int .i64 (X.length : Int), cmpF] M = some (.tup [], M') ∧ Dat o M' (P ++ Z ++ Y ++ X ++ Q) ∧ Mem.But (· = o) M M' := by
  have hE := p26_0_eq C prog.meth (some (o, 0)) l (.unk 0) (P.length : Int) (b : Int) (X.length : Int) (some 19) [] [] M
  obtain ⟨M', t1, t2, t3⟩ := swapR_loop (P := P) (Y := Y) (Q := Q) (n := X.length) (b := b) hl60 X.length X Z [] [] M rfl hXZ.symm rfl (by simp) hb (by rw [hl]; simp) (by simpa using hd)
  exact ⟨M', c26 (hE.trans t1), by simpa using t2, t3⟩
theorem rot_loop {m : Nat} (hl60 : l < 2 ^ 40) :
    ∀ (N : Nat) (U V Pre Post : List Pr) (M : Mem), U.length + V.length ≤ N → 0 < U.length → 0 < V.length → m = Pre.length + U.length → l = (Pre ++ (U ++ V) ++ Post).length → Dat o M (Pre ++ (U ++ V) ++ Post) →
    ∃ M', p25_1 C prog.meth (some (o, 0)) l (.unk 0) (m : Int) (some 19) [] [] (U.length : Int) (V.length : Int) M = some (.tup [], M') ∧ Dat o M' (Pre ++ (V ++ U) ++ Post) ∧ Mem.But (· = o) M M' := by
  intro N
  induction N with
  | zero => intro U V Pre Post M hN hU; omega
  | succ N ih =>
    intro U V Pre Post M hN hU hV hm hl hd
    have hE := p25_1_eq C prog.meth (some (o, 0)) l (.unk 0) (m : Int) (some 19) [] [] (U.length : Int) (V.length : Int) M
    have hll : l = Pre.length + U.length + V.length + Post.length := by rw [hl]; simp; omega
    have w1 : IntKind.wrap .i64 ((m : Int) - (U.length : Int)) = (Pre.length : Int) := by rw [i64sub (by omega) (by omega)]; omega
    by_cases h1 : U.length = V.length
    · have q : ((U.length : Int) != (V.length : Int)) = false := by rw [h1]; simp
      obtain ⟨M', t1, t2, t3⟩ := SwapR_C (M := M) (o := o) (P := Pre) (X := U) (Y := []) (Z := V) (Q := Post) (b := m) hl60 h1 (by simp; omega) (by rw [hl]; simp) (by simpa using hd)
      simp only [q, cond_false, w1] at hE
      rw [t1, Option.bind_some] at hE
      simp only [Option.bind_some, List.getElem?_cons_zero, List.getElem?_cons_succ, int?_int, AVal.bool?, AVal.ptr?, AVal.sl?, AVal.tup?, AVal.agg?, AVal.ifc?, AVal.fn?, AVal.str?, List.head?_cons, List.tail_cons, List.isEmpty_nil, cond_true, cond_false, Option.isNone_some, Option.isNone_none, Bool.not_true, Bool.not_false, decide_true, decide_false, beq_self_eq_true, bne_self_eq_false, Int.reduceBEq, Int.reduceBNe, Int.cast_ofNat_Int] at hE
      exact ⟨M', hE, by simpa using t2, t3⟩
    · have q : ((U.length : Int) != (V.length : Int)) = true := by simp; omega
      by_cases h2 : V.length < U.length
      · have q2 : ((U.length : Int) > (V.length : Int)) := by omega
        have eU : U = U.take V.length ++ U.drop V.length := (List.take_append_drop _ _).symm
        have lT : (U.take V.length).length = V.length := by simp; omega
        have lD : (U.drop V.length).length = U.length - V.length := by simp
        obtain ⟨M1, t1, t2, t3⟩ := SwapR_C (M := M) (o := o) (P := Pre) (X := U.take V.length) (Y := U.drop V.length) (Z := V) (Q := Post) (b := m) hl60 lT (by omega) (by rw [hll]; simp; omega) (by
          have : Pre ++ U.take V.length ++ U.drop V.length ++ V ++ Post = Pre ++ (U ++ V) ++ Post := by
            rw [List.append_assoc Pre, List.take_append_drop]; simp
          rw [this]; exact hd)
        rw [lT] at t1
        have w2 : IntKind.wrap .i64 ((U.length : Int) - (V.length : Int)) = (((U.drop V.length).length : Nat) : Int) := by rw [i64sub (by omega) (by omega), lD]
        simp only [q, q2, cond_true, decide_true, w1, w2] at hE
        rw [t1, Option.bind_some] at hE
        simp only [Option.bind_some, List.getElem?_cons_zero, List.getElem?_cons_succ, int?_int, AVal.bool?, AVal.ptr?, AVal.sl?, AVal.tup?, AVal.agg?, AVal.ifc?, AVal.fn?, AVal.str?, List.head?_cons, List.tail_cons, List.isEmpty_nil, cond_true, cond_false, Option.isNone_some, Option.isNone_none, Bool.not_true, Bool.not_false, decide_true, decide_false, beq_self_eq_true, bne_self_eq_false, Int.reduceBEq, Int.reduceBNe, Int.cast_ofNat_Int] at hE
        obtain ⟨M', r1, r2, r3⟩ := ih (U.drop V.length) (U.take V.length) (Pre ++ V) Post M1 (by omega) (by omega) (by omega) (by simp; omega) (by rw [hll]; simp; omega) (by simpa using t2)
        rw [lT] at r1
        refine ⟨M', hE.trans r1, ?_, t3.trans r3 (fun _ _ h => h)⟩
        rw [List.take_append_drop] at r2
        simpa using r2
      · have q2 : ¬ ((U.length : Int) > (V.length : Int)) := by omega
        obtain ⟨Y, Z, rfl, hZ⟩ : ∃ Y Z, V = Y ++ Z ∧ Z.length = U.length := ⟨V.take (V.length - U.length), V.drop (V.length - U.length), (List.take_append_drop _ _).symm, by simp; omega⟩
        simp only [List.length_append] at hN hV h1 h2 hll
        have w2 : IntKind.wrap .i64 (IntKind.wrap .i64 ((m : Int) + ((Y ++ Z).length : Int)) - (U.length : Int)) = ((m + Y.length : Nat) : Int) := by
          rw [i64add (by simp; omega), i64sub (by simp; omega) (by simp; omega)]
          simp; omega
        have w3 : IntKind.wrap .i64 (((Y ++ Z).length : Int) - (U.length : Int)) = (Y.length : Int) := by
          rw [i64sub (by simp; omega) (by simp; omega)]
          simp; omega
        obtain ⟨M1, t1, t2, t3⟩ := SwapR_C (M := M) (o := o) (P := Pre) (X := U) (Y := Y) (Z := Z) (Q := Post) (b := m + Y.length) hl60 hZ.symm (by omega) (by rw [hll]; simp; omega) (by simpa using hd)
        simp only [q, q2, cond_true, cond_false, decide_false, w1, w2, w3] at hE
        rw [t1, Option.bind_some] at hE
        simp only [Option.bind_some, List.getElem?_cons_zero, List.getElem?_cons_succ, int?_int, AVal.bool?, AVal.ptr?, AVal.sl?, AVal.tup?, AVal.agg?, AVal.ifc?, AVal.fn?, AVal.str?, List.head?_cons, List.tail_cons, List.isEmpty_nil, cond_true, cond_false, Option.isNone_some, Option.isNone_none, Bool.not_true, Bool.not_false, decide_true, decide_false, beq_self_eq_true, bne_self_eq_false, Int.reduceBEq, Int.reduceBNe, Int.cast_ofNat_Int] at hE
        obtain ⟨M', r1, r2, r3⟩ := ih Z Y Pre (U ++ Post) M1 (by omega) (by omega) (by omega) (by omega) (by rw [hll]; simp; omega) (by simpa using t2)
        rw [hZ] at r1
        exact ⟨M', hE.trans r1, by simpa using r2, t3.trans r3 (fun _ _ h => h)⟩
theorem Rot_C {P U V Q : List Pr} {m b : Nat} (hl60 : l < 2 ^ 40) (hU : 0 < U.length) (hV : 0 < V.length) (hm : m = P.length + U.length) (hb : b = m + V.length) (hl : l = (P ++ (U ++ V) ++ Q).length) (hd : Dat o M (P ++ (U ++ V) ++ Q)) :
    ∃ M', C 25 [slD o l, .int .i64 (P.length : Int), .int .i64 (m : Int), .int .i64 (b : Int), cmpF] M = some (.tup [], M') ∧ Dat o M' (P ++ (V ++ U) ++ Q) ∧ Mem.But (· = o) M M' := by
  have hE := p25_0_eq C prog.meth (some (o, 0)) l (.unk 0) (P.length : Int) (m : Int) (b : Int) (some 19) [] [] M
  have hll : l = P.length + U.length + V.length + Q.length := by rw [hl]; simp; omega
  have w1 : IntKind.wrap .i64 ((m : Int) - (P.length : Int)) = (U.length : Int) := by rw [i64sub (by omega) (by omega)]; omega
  have w2 : IntKind.wrap .i64 ((b : Int) - (m : Int)) = (V.length : Int) := by rw [i64sub (by omega) (by omega)]; omega
  rw [w1, w2] at hE
  obtain ⟨M', t1, t2, t3⟩ := rot_loop (m := m) hl60 (U.length + V.length) U V P Q M (Nat.le_refl _) hU hV hm hl hd
  exact ⟨M', c25 (hE.trans t1), t2, t3⟩
/-! symMerge. -/
def at_ (L : List Pr) (i : Nat) : Pr := L.getD i (0, 0)
theorem Dat.at {L : List Pr} (h : Dat o M L) {i : Nat} (hi : i < L.length) : M.ldI .u64 o (i * 2) = some (at_ L i).1 ∧ M.ldI .u64 o (i * 2 + 1) = some (at_ L i).2 := by
  have := h.rd hi
  unfold at_
  rw [List.getD_eq_getElem?_getD, List.getElem?_eq_getElem hi]; exact this
theorem at_app {P A R : List Pr} {i : Nat} (hi : i < A.length) : at_ (P ++ (A ++ R)) (P.length + i) = A[i]'hi := by
  unfold at_
  rw [List.getD_eq_getElem?_getD, List.getElem?_append_right (by omega), Nat.add_sub_cancel_left, List.getElem?_append_left hi, List.getElem?_eq_getElem hi]; rfl
/-- One thing ahead of a sorted list: where it belongs. -/
theorem one_search {P B Q : List Pr} {x : Pr} (hl60 : l < 2 ^ 40) (hl : l = (P ++ ([x] ++ B) ++ Q).length) (hB : Srt B) :
    ∀ (D i j : Nat) (M : Mem), j - i ≤ D → i ≤ j → j ≤ B.length → Dat o M (P ++ ([x] ++ B) ++ Q) → (∀ t (h : t < B.length), t < i → (B[t]'h).1 < x.1) → (∀ t (h : t < B.length), j ≤ t → x.1 ≤ (B[t]'h).1) →
    ∃ M' k, p24_4 C prog.meth (some (o, 0)) l (.unk 0) (P.length : Int) (some 19) [] [] ((P.length + 1 + i : Nat) : Int) ((P.length + 1 + j : Nat) : Int) M = p24_7 C prog.meth (some (o, 0)) l (.unk 0) ((P.length + 1 + k : Nat) : Int) (P.length : Int) M' ∧ k ≤ B.length ∧ (∀ t (h : t < B.length), t < k → (B[t]'h).1 < x.1) ∧ (∀ t (h : t < B.length), k ≤ t → x.1 ≤ (B[t]'h).1) ∧ M.Upto M' := by
  have hll : l = P.length + 1 + B.length + Q.length := by rw [hl]; simp; omega
  intro D
  induction D with
  | zero =>
    intro i j M hD hij hj hd h1 h2
    obtain rfl : i = j := by omega
    have hE := p24_4_eq C prog.meth (some (o, 0)) l (.unk 0) (P.length : Int) (some 19) [] [] ((P.length + 1 + i : Nat) : Int) ((P.length + 1 + i : Nat) : Int) M
    have q : ¬ (((P.length + 1 + i : Nat) : Int) < ((P.length + 1 + i : Nat) : Int)) := by omega
    simp only [q, decide_false, cond_false] at hE
    exact ⟨M, i, hE, hj, h1, h2, Mem.Upto.refl _⟩
  | succ D ih =>
    intro i j M hD hij hj hd h1 h2
    by_cases q0 : i = j
    · exact ih i j M (by omega) hij hj hd h1 h2
    have hE := p24_4_eq C prog.meth (some (o, 0)) l (.unk 0) (P.length : Int) (some 19) [] [] ((P.length + 1 + i : Nat) : Int) ((P.length + 1 + j : Nat) : Int) M
    have q : (((P.length + 1 + i : Nat) : Int) < ((P.length + 1 + j : Nat) : Int)) := by omega
    obtain ⟨h, hh⟩ : ∃ h, (P.length + 1 + i + (P.length + 1 + j)) / 2 = P.length + 1 + h := ⟨(P.length + 1 + i + (P.length + 1 + j)) / 2 - (P.length + 1), by omega⟩
    have hhr : i ≤ h ∧ h < j := by omega
    have w1 := half (m := P.length + 1 + i) (n := P.length + 1 + j) (by omega)
    rw [hh] at w1
    have c0 : (0 : Int) ≤ ((P.length + 1 + h : Nat) : Int) := by omega
    have c1 : (0 : Int) ≤ (P.length : Int) := by omega
    have c2 : Nat.blt (P.length + 1 + h) l = true := Mem.blt_iff.2 (by omega)
    have c3 : Nat.blt P.length l = true := Mem.blt_iff.2 (by omega)
    have hsp : slPtr (some (o, 0)) (.unk 0) = some (o, 0) := rfl
    have r1 := hd.at (i := P.length + 1 + h) (by omega)
    have r2 := hd.at (i := P.length) (by omega)
    have a1 : at_ (P ++ ([x] ++ B) ++ Q) (P.length + 1 + h) = B[h]'(by omega) := by
      have e : P ++ ([x] ++ B) ++ Q = (P ++ [x]) ++ (B ++ Q) := by simp
      rw [e, show P.length + 1 + h = (P ++ [x]).length + h by simp]
      exact at_app (by omega)
    have a2 : at_ (P ++ ([x] ++ B) ++ Q) P.length = x := by
      have e : P ++ ([x] ++ B) ++ Q = P ++ ([x] ++ (B ++ Q)) := by simp
      rw [e]
      exact at_app (P := P) (A := [x]) (i := 0) (by simp)
    rw [a1] at r1
    rw [a2] at r2
    obtain ⟨M1, r, k1, k2, k3⟩ := cmp_C (B[h]'(by omega)) x M
    simp only [Option.bind_some, List.getElem?_cons_zero, List.getElem?_cons_succ, int?_int, AVal.bool?, AVal.ptr?, AVal.sl?, AVal.tup?, AVal.agg?, AVal.ifc?, AVal.fn?, AVal.str?, List.head?_cons, List.tail_cons, List.isEmpty_nil, cond_true, cond_false, Option.isNone_some, Option.isNone_none, Bool.not_true, Bool.not_false, decide_true, decide_false, beq_self_eq_true, bne_self_eq_false, Int.reduceBEq, Int.reduceBNe, Int.cast_ofNat_Int, q, w1, c0, c1, c2, c3, Int.toNat_natCast, hsp, Nat.zero_add, r1.1, r1.2, r2.1, r2.2, List.nil_append, List.append_nil] at hE
    rw [k1, Option.bind_some] at hE
    simp only [Option.bind_some, List.getElem?_cons_zero, List.getElem?_cons_succ, int?_int, AVal.bool?, AVal.ptr?, AVal.sl?, AVal.tup?, AVal.agg?, AVal.ifc?, AVal.fn?, AVal.str?, List.head?_cons, List.tail_cons, List.isEmpty_nil, cond_true, cond_false, Option.isNone_some, Option.isNone_none, Bool.not_true, Bool.not_false, decide_true, decide_false, beq_self_eq_true, bne_self_eq_false, Int.reduceBEq, Int.reduceBNe, Int.cast_ofNat_Int, k3] at hE
    have hd1 := hd.upto k2
    by_cases h3 : (B[h]'(by omega)).1 < x.1
    · have w2 : IntKind.wrap .i64 (((P.length + 1 + h : Nat) : Int) + 1) = ((P.length + 1 + (h + 1) : Nat) : Int) := by rw [wrap_i64 (by omega) (by omega)]; omega
      simp only [h3, decide_true, cond_true, w2] at hE
      obtain ⟨M', k, t1, t2, t3, t4, t5⟩ := ih (h + 1) j M1 (by omega) (by omega) hj hd1 (fun t ht hlt => by
        have := hB.le (i := t) (j := h) (by omega) (by omega); omega) h2
      exact ⟨M', k, hE.trans t1, t2, t3, t4, k2.trans t5⟩
    · simp only [h3, decide_false, cond_false] at hE
      obtain ⟨M', k, t1, t2, t3, t4, t5⟩ := ih i h M1 (by omega) (by omega) (by omega) hd1 h1 (fun t ht hlt => by
        have := hB.le (i := h) (j := t) hlt ht; omega)
      exact ⟨M', k, hE.trans t1, t2, t3, t4, k2.trans t5⟩
theorem one_move {P B2 Q : List Pr} {x : Pr} {i : Nat} (hl60 : l < 2 ^ 40) :
    ∀ (d : Nat) (Ba Bb : List Pr) (M : Mem), Bb.length = d → i = P.length + Ba.length + Bb.length + 1 → l = (P ++ (Ba ++ x :: (Bb ++ B2)) ++ Q).length → Dat o M (P ++ (Ba ++ x :: (Bb ++ B2)) ++ Q) →
    ∃ M', p24_7 C prog.meth (some (o, 0)) l (.unk 0) (i : Int) ((P.length + Ba.length : Nat) : Int) M = some (.tup [], M') ∧ Dat o M' (P ++ (Ba ++ Bb ++ x :: B2) ++ Q) ∧ Mem.But (· = o) M M' := by
  intro d
  induction d with
  | zero =>
    intro Ba Bb M hB hi hl hd
    obtain rfl : Bb = [] := List.length_eq_zero_iff.1 hB
    have hE := p24_7_eq C prog.meth (some (o, 0)) l (.unk 0) (i : Int) ((P.length + Ba.length : Nat) : Int) M
    have hll : l = P.length + Ba.length + 1 + B2.length + Q.length := by rw [hl]; simp; omega
    simp only [List.length_nil, Nat.add_zero] at hi
    have w : IntKind.wrap .i64 ((i : Int) - 1) = ((P.length + Ba.length : Nat) : Int) := by rw [wrap_i64 (by omega) (by omega)]; omega
    have q : ¬ (((P.length + Ba.length : Nat) : Int) < ((P.length + Ba.length : Nat) : Int)) := by omega
    simp only [w, q, decide_false, cond_false] at hE
    exact ⟨M, hE, by simpa using hd, Mem.But.refl _ _⟩
  | succ d ih =>
    intro Ba Bb M hB hi hl hd
    obtain ⟨y, Bb', rfl⟩ : ∃ x X2', Bb = x :: X2' := by
      cases Bb with
      | nil => simp at hB
      | cons x R' => exact ⟨x, R', rfl⟩
    simp only [List.length_cons] at hB hi
    have hE := p24_7_eq C prog.meth (some (o, 0)) l (.unk 0) (i : Int) ((P.length + Ba.length : Nat) : Int) M
    have hll : l = P.length + Ba.length + 2 + Bb'.length + B2.length + Q.length := by rw [hl]; simp; omega
    obtain ⟨k, hk⟩ : ∃ k, P.length + Ba.length = k := ⟨_, rfl⟩
    rw [hk] at hE ⊢
    have w : IntKind.wrap .i64 ((i : Int) - 1) = ((k + Bb'.length + 1 : Nat) : Int) := by rw [wrap_i64 (by omega) (by omega)]; omega
    have q : ((k : Int) < ((k + Bb'.length + 1 : Nat) : Int)) := by omega
    have w2 : IntKind.wrap .i64 ((k : Int) + 1) = ((k + 1 : Nat) : Int) := by rw [wrap_i64 (by omega) (by omega)]; omega
    have c0 : (0 : Int) ≤ ((k + 1 : Nat) : Int) := by omega
    have c1 : (0 : Int) ≤ (k : Int) := by omega
    have c2 : Nat.blt (k + 1) l = true := Mem.blt_iff.2 (by omega)
    have c3 : Nat.blt k l = true := Mem.blt_iff.2 (by omega)
    have hsp : slPtr (some (o, 0)) (.unk 0) = some (o, 0) := rfl
    have e0 : P ++ (Ba ++ x :: (y :: Bb' ++ B2)) ++ Q = (P ++ Ba) ++ x :: ([] ++ y :: (Bb' ++ B2 ++ Q)) := by simp
    have e0' : P ++ (Ba ++ x :: (y :: Bb' ++ B2)) ++ Q = (P ++ Ba ++ [x]) ++ y :: (Bb' ++ B2 ++ Q) := by simp
    have hd1 := hd
    have hd2 := hd
    rw [e0] at hd1
    rw [e0'] at hd2
    have r1 := hd1.rdA (i := k) (by simp; omega)
    have r2 := hd2.rdA (i := k + 1) (by simp; omega)
    obtain ⟨⟨M1, M2, s1, s2, d3, n3, b3⟩, _⟩ := hd1.swap (i := k) (j := k + 1) (by simp; omega) (by simp; omega)
    simp only [Option.bind_some, List.getElem?_cons_zero, List.getElem?_cons_succ, int?_int, AVal.bool?, AVal.ptr?, AVal.sl?, AVal.tup?, AVal.agg?, AVal.ifc?, AVal.fn?, AVal.str?, List.head?_cons, List.tail_cons, List.isEmpty_nil, cond_true, cond_false, Option.isNone_some, Option.isNone_none, Bool.not_true, Bool.not_false, decide_true, decide_false, beq_self_eq_true, bne_self_eq_false, Int.reduceBEq, Int.reduceBNe, Int.cast_ofNat_Int, w, q, w2, c0, c1, c2, c3, Int.toNat_natCast, hsp, Nat.zero_add, r1.1, r1.2, r2.1, r2.2, s1, s2] at hE
    have e1 : (P ++ Ba) ++ y :: ([] ++ x :: (Bb' ++ B2 ++ Q)) = P ++ ((Ba ++ [y]) ++ x :: (Bb' ++ B2)) ++ Q := by simp
    rw [e1] at d3
    obtain ⟨M', t1, t2, t3⟩ := ih (Ba ++ [y]) Bb' M2 (by omega) (by simp; omega) (by rw [hll]; simp; omega) d3
    rw [show P.length + (Ba ++ [y]).length = k + 1 by simp; omega] at t1
    exact ⟨M', hE.trans t1, by simpa using t2, b3.trans t3 (fun _ _ h => h)⟩
/-- One thing behind a sorted list. -/
theorem two_search {P A Q : List Pr} {y : Pr} (hl60 : l < 2 ^ 40) (hl : l = (P ++ (A ++ [y]) ++ Q).length) (hA : Srt A) :
    ∀ (D i j : Nat) (M : Mem), j - i ≤ D → i ≤ j → j ≤ A.length → Dat o M (P ++ (A ++ [y]) ++ Q) → (∀ t (h : t < A.length), t < i → (A[t]'h).1 ≤ y.1) → (∀ t (h : t < A.length), j ≤ t → y.1 < (A[t]'h).1) →
    ∃ M' k, p24_5 C prog.meth (some (o, 0)) l (.unk 0) ((P.length + A.length : Nat) : Int) (some 19) [] [] ((P.length + i : Nat) : Int) ((P.length + j : Nat) : Int) M = p24_8 C prog.meth (some (o, 0)) l (.unk 0) ((P.length + k : Nat) : Int) ((P.length + A.length : Nat) : Int) M' ∧ k ≤ A.length ∧ (∀ t (h : t < A.length), t < k → (A[t]'h).1 ≤ y.1) ∧ (∀ t (h : t < A.length), k ≤ t → y.1 < (A[t]'h).1) ∧ M.Upto M' := by
  have hll : l = P.length + A.length + 1 + Q.length := by rw [hl]; simp; omega
  intro D
  induction D with
  | zero =>
    intro i j M hD hij hj hd h1 h2
    obtain rfl : i = j := by omega
    have hE := p24_5_eq C prog.meth (some (o, 0)) l (.unk 0) ((P.length + A.length : Nat) : Int) (some 19) [] [] ((P.length + i : Nat) : Int) ((P.length + i : Nat) : Int) M
    have q : ¬ (((P.length + i : Nat) : Int) < ((P.length + i : Nat) : Int)) := by omega
    simp only [q, decide_false, cond_false] at hE
    exact ⟨M, i, hE, hj, h1, h2, Mem.Upto.refl _⟩
  | succ D ih =>
    intro i j M hD hij hj hd h1 h2
    by_cases q0 : i = j
    · exact ih i j M (by omega) hij hj hd h1 h2
    have hE := p24_5_eq C prog.meth (some (o, 0)) l (.unk 0) ((P.length + A.length : Nat) : Int) (some 19) [] [] ((P.length + i : Nat) : Int) ((P.length + j : Nat) : Int) M
    have q : (((P.length + i : Nat) : Int) < ((P.length + j : Nat) : Int)) := by omega
    obtain ⟨h, hh⟩ : ∃ h, (P.length + i + (P.length + j)) / 2 = P.length + h := ⟨(P.length + i + (P.length + j)) / 2 - P.length, by omega⟩
    have hhr : i ≤ h ∧ h < j := by omega
    have w1 := half (m := P.length + i) (n := P.length + j) (by omega)
    rw [hh] at w1
    have c0 : (0 : Int) ≤ ((P.length + h : Nat) : Int) := by omega
    have c1 : (0 : Int) ≤ ((P.length + A.length : Nat) : Int) := by omega
    have c2 : Nat.blt (P.length + h) l = true := Mem.blt_iff.2 (by omega)
    have c3 : Nat.blt (P.length + A.length) l = true := Mem.blt_iff.2 (by omega)
    have hsp : slPtr (some (o, 0)) (.unk 0) = some (o, 0) := rfl
    have r1 := hd.at (i := P.length + h) (by omega)
    have r2 := hd.at (i := P.length + A.length) (by omega)
    have a1 : at_ (P ++ (A ++ [y]) ++ Q) (P.length + h) = A[h]'(by omega) := by
      have e : P ++ (A ++ [y]) ++ Q = P ++ (A ++ ([y] ++ Q)) := by simp
      rw [e]
      exact at_app (by omega)
    have a2 : at_ (P ++ (A ++ [y]) ++ Q) (P.length + A.length) = y := by
      have e : P ++ (A ++ [y]) ++ Q = (P ++ A) ++ ([y] ++ Q) := by simp
      rw [e, show P.length + A.length = (P ++ A).length + 0 by simp]
      exact at_app (A := [y]) (i := 0) (by simp)
    rw [a1] at r1
    rw [a2] at r2
    obtain ⟨M1, r, k1, k2, k3⟩ := cmp_C y (A[h]'(by omega)) M
    simp only [Option.bind_some, List.getElem?_cons_zero, List.getElem?_cons_succ, int?_int, AVal.bool?, AVal.ptr?, AVal.sl?, AVal.tup?, AVal.agg?, AVal.ifc?, AVal.fn?, AVal.str?, List.head?_cons, List.tail_cons, List.isEmpty_nil, cond_true, cond_false, Option.isNone_some, Option.isNone_none, Bool.not_true, Bool.not_false, decide_true, decide_false, beq_self_eq_true, bne_self_eq_false, Int.reduceBEq, Int.reduceBNe, Int.cast_ofNat_Int, q, w1, c0, c1, c2, c3, Int.toNat_natCast, hsp, Nat.zero_add, r1.1, r1.2, r2.1, r2.2, List.nil_append, List.append_nil] at hE
    rw [k1, Option.bind_some] at hE
    simp only [Option.bind_some, List.getElem?_cons_zero, List.getElem?_cons_succ, int?_int, AVal.bool?, AVal.ptr?, AVal.sl?, AVal.tup?, AVal.agg?, AVal.ifc?, AVal.fn?, AVal.str?, List.head?_cons, List.tail_cons, List.isEmpty_nil, cond_true, cond_false, Option.isNone_some, Option.isNone_none, Bool.not_true, Bool.not_false, decide_true, decide_false, beq_self_eq_true, bne_self_eq_false, Int.reduceBEq, Int.reduceBNe, Int.cast_ofNat_Int, k3] at hE
    have hd1 := hd.upto k2
    by_cases h3 : y.1 < (A[h]'(by omega)).1
    · simp only [h3, decide_true, Bool.not_true, cond_false] at hE
      obtain ⟨M', k, t1, t2, t3, t4, t5⟩ := ih i h M1 (by omega) (by omega) (by omega) hd1 h1 (fun t ht hlt => by
        have := hA.le (i := h) (j := t) hlt ht; omega)
      exact ⟨M', k, hE.trans t1, t2, t3, t4, k2.trans t5⟩
    · have w2 : IntKind.wrap .i64 (((P.length + h : Nat) : Int) + 1) = ((P.length + (h + 1) : Nat) : Int) := by rw [wrap_i64 (by omega) (by omega)]; omega
      simp only [h3, decide_false, Bool.not_false, cond_true, w2] at hE
      obtain ⟨M', k, t1, t2, t3, t4, t5⟩ := ih (h + 1) j M1 (by omega) (by omega) hj hd1 (fun t ht hlt => by
        have := hA.le (i := t) (j := h) (by omega) (by omega); omega) h2
      exact ⟨M', k, hE.trans t1, t2, t3, t4, k2.trans t5⟩
theorem two_move {P A1 Q : List Pr} {y : Pr} (hl60 : l < 2 ^ 40) :
    ∀ (d : Nat) (Aa Ab : List Pr) (M : Mem), Aa.length = d → l = (P ++ (A1 ++ Aa ++ y :: Ab) ++ Q).length → Dat o M (P ++ (A1 ++ Aa ++ y :: Ab) ++ Q) →
    ∃ M', p24_8 C prog.meth (some (o, 0)) l (.unk 0) ((P.length + A1.length : Nat) : Int) ((P.length + A1.length + Aa.length : Nat) : Int) M = some (.tup [], M') ∧ Dat o M' (P ++ (A1 ++ y :: (Aa ++ Ab)) ++ Q) ∧ Mem.But (· = o) M M' := by
  intro d
  induction d with
  | zero =>
    intro Aa Ab M hB hl hd
    obtain rfl : Aa = [] := List.length_eq_zero_iff.1 hB
    have hE := p24_8_eq C prog.meth (some (o, 0)) l (.unk 0) ((P.length + A1.length : Nat) : Int) ((P.length + A1.length + 0 : Nat) : Int) M
    have q : ¬ (((P.length + A1.length + 0 : Nat) : Int) > ((P.length + A1.length : Nat) : Int)) := by omega
    simp only [q, decide_false, cond_false] at hE
    exact ⟨M, hE, by simpa using hd, Mem.But.refl _ _⟩
  | succ d ih =>
    intro Aa Ab M hB hl hd
    obtain ⟨A', t, rfl⟩ : ∃ A' y, Aa = A' ++ [y] := ⟨Aa.dropLast, Aa.getLast (by intro e; rw [e] at hB; simp at hB), (List.dropLast_concat_getLast _).symm⟩
    simp only [List.length_append, List.length_singleton] at hB
    have hE := p24_8_eq C prog.meth (some (o, 0)) l (.unk 0) ((P.length + A1.length : Nat) : Int) ((P.length + A1.length + (A' ++ [t]).length : Nat) : Int) M
    have hll : l = P.length + A1.length + A'.length + 2 + Ab.length + Q.length := by rw [hl]; simp; omega
    obtain ⟨k, hk⟩ : ∃ k, P.length + A1.length + A'.length = k := ⟨_, rfl⟩
    have hk1 : P.length + A1.length + (A' ++ [t]).length = k + 1 := by simp; omega
    rw [hk1] at hE ⊢
    have q : (((k + 1 : Nat) : Int) > ((P.length + A1.length : Nat) : Int)) := by omega
    have w : IntKind.wrap .i64 (((k + 1 : Nat) : Int) - 1) = (k : Int) := by rw [wrap_i64 (by omega) (by omega)]; omega
    have c0 : (0 : Int) ≤ ((k + 1 : Nat) : Int) := by omega
    have c1 : (0 : Int) ≤ (k : Int) := by omega
    have c2 : Nat.blt (k + 1) l = true := Mem.blt_iff.2 (by omega)
    have c3 : Nat.blt k l = true := Mem.blt_iff.2 (by omega)
    have hsp : slPtr (some (o, 0)) (.unk 0) = some (o, 0) := rfl
    have e0 : P ++ (A1 ++ (A' ++ [t]) ++ y :: Ab) ++ Q = (P ++ A1 ++ A') ++ t :: ([] ++ y :: (Ab ++ Q)) := by simp
    have e0' : P ++ (A1 ++ (A' ++ [t]) ++ y :: Ab) ++ Q = (P ++ A1 ++ A' ++ [t]) ++ y :: (Ab ++ Q) := by simp
    have hd1 := hd
    have hd2 := hd
    rw [e0] at hd1
    rw [e0'] at hd2
    have r1 := hd1.rdA (i := k) (by simp; omega)
    have r2 := hd2.rdA (i := k + 1) (by simp; omega)
    obtain ⟨_, M1, M2, s1, s2, d3, n3, b3⟩ := hd1.swap (i := k) (j := k + 1) (by simp; omega) (by simp; omega)
    simp only [Option.bind_some, List.getElem?_cons_zero, List.getElem?_cons_succ, int?_int, AVal.bool?, AVal.ptr?, AVal.sl?, AVal.tup?, AVal.agg?, AVal.ifc?, AVal.fn?, AVal.str?, List.head?_cons, List.tail_cons, List.isEmpty_nil, cond_true, cond_false, Option.isNone_some, Option.isNone_none, Bool.not_true, Bool.not_false, decide_true, decide_false, beq_self_eq_true, bne_self_eq_false, Int.reduceBEq, Int.reduceBNe, Int.cast_ofNat_Int, q, w, c0, c1, c2, c3, Int.toNat_natCast, hsp, Nat.zero_add, r1.1, r1.2, r2.1, r2.2, s1, s2] at hE
    have e1 : (P ++ A1 ++ A') ++ y :: ([] ++ t :: (Ab ++ Q)) = P ++ (A1 ++ A' ++ y :: (t :: Ab)) ++ Q := by simp
    rw [e1] at d3
    obtain ⟨M', t1, t2, t3⟩ := ih A' (t :: Ab) M2 (by omega) (by rw [hll]; simp; omega) d3
    rw [hk] at t1
    exact ⟨M', hE.trans t1, by simpa using t2, b3.trans t3 (fun _ _ h => h)⟩
end
end Go.Proofs.Ytlglggcheffoeaa.M
