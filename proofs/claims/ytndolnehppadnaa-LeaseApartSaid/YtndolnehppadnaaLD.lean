/- LeaseApart. -/
import Derived.Test.YtndolnehppadnaaLC
set_option linter.unusedVariables false
set_option linter.unusedSimpArgs false
namespace Go.Proofs.Ytndolnehppadnaa.M
open Go.Abs

/-- Which places are taken. -/
def marks (f : Nat → Bool) : List AVal := (List.range 40).map fun j => .int .i64 (cond (f j) 1 0)
theorem marks_get (f : Nat → Bool) {j : Nat} (h : j < 40) : (marks f)[j]? = some (.int .i64 (cond (f j) 1 0)) := by simp [marks, h]
theorem marks_length (f : Nat → Bool) : (marks f).length = 40 := by simp [marks]
theorem marks_set (f : Nat → Bool) {j : Nat} (h : j < 40) : (marks f).set j (.int .i64 1) = marks fun x => f x || x == j := by
  apply List.ext_getElem?
  intro q
  rw [List.getElem?_set]
  by_cases hq : q < 40
  · rw [marks_get _ hq]
    by_cases e : j = q
    · subst e
      have h1 : (f j || j == j) = true := by simp
      rw [if_pos rfl, if_pos (by rw [marks_length]; exact h), marks_get _ h, h1]; rfl
    · rw [if_neg e]; simp only [marks_get _ hq]
      have : (q == j) = false := by simp; omega
      simp [this]
  · rw [List.getElem?_eq_none (by rw [marks_length]; omega)]
    rw [if_neg (by omega), List.getElem?_eq_none (by rw [marks_length]; omega)]
theorem marks_none : replZ [.int .i64 0] 40 = marks fun _ => false := by kernel_rfl

theorem mark_inner {n : Nat} {l1 : Option (Nat × Nat)} {l2 : Nat} {l3 : Cap} {k : Option (Nat × Nat)} {nx i0 : Int} {xa : Option (Nat × Nat)} {xl : Nat} {xc : Cap} {arr t at_ nn : Nat} {rs : List (Int × Int)} (ht : t < rs.length) (hr : rs[t] = ((at_ : Int), (nn : Int))) (hn : n ≤ 40) (hat : at_ + nn ≤ n) (hxl : xl < 2 ^ 40) (harr : arr ∉ fpOf xa) :
    ∀ (d j : Nat) (M : Mem) (f : Nat → Bool), j + d = nn → M.get arr = some ⟨marks f, .fixed⟩ → (∀ x, at_ + j ≤ x → x < at_ + nn → f x = false) → Row M 2 encR xa xl xc rs →
      ∃ M' f', p6_6 C prog.meth n l1 l2 l3 k nx i0 xa xl xc arr t j M = p6_5 C prog.meth n l1 l2 l3 k nx i0 xa xl xc arr ((t + 1 : Nat) : Int) M' ∧ M'.get arr = some ⟨marks f', .fixed⟩ ∧ Mem.But (· = arr) M M' ∧ (∀ x, f' x = (f x || (decide (at_ + j ≤ x) && decide (x < at_ + nn)))) := by
  intro d
  induction d with
  | zero =>
    intro j M f hj hg hf hrow
    have hlen := hrow.length
    obtain ⟨p, hp, hget⟩ := hrow.sl.get encR2 (by omega) (i := t) (by omega)
    have hg1 := hget 1 (by omega)
    simp only [encR, hr, List.getElem?_cons_zero, List.getElem?_cons_succ, Nat.add_zero] at hg1
    have e1 := ldI_ld.2 hg1
    have hE := p6_6_eq C prog.meth n l1 l2 l3 k nx i0 xa xl xc arr t j M
    have h0 : (0 : Int) ≤ (t : Int) := by omega
    have h2 : Nat.blt t xl = true := Mem.blt_iff.2 (by omega)
    have h3 : ¬ ((j : Int) < (nn : Int)) := by omega
    have hw : IntKind.wrap .i64 ((t : Int) + 1) = ((t + 1 : Nat) : Int) := by rw [wrap_i64 (by omega) (by omega)]; rfl
    simp only [Option.bind_some, List.getElem?_cons_zero, List.getElem?_cons_succ, int?_int, AVal.bool?, AVal.ptr?, AVal.sl?, AVal.tup?, AVal.agg?, AVal.ifc?, AVal.fn?, AVal.str?, List.head?_cons, List.tail_cons, List.isEmpty_nil, cond_true, cond_false, Option.isNone_some, Option.isNone_none, Bool.not_true, Bool.not_false, decide_true, decide_false, beq_self_eq_true, bne_self_eq_false, Int.reduceBEq, Int.reduceBNe, Int.cast_ofNat_Int, h0, Int.toNat_natCast, h2, hp, Nat.add_assoc, e1, h3, hw] at hE
    refine ⟨M, f, hE, hg, Mem.But.refl _ _, fun x => ?_⟩
    have : (decide (at_ + j ≤ x) && decide (x < at_ + nn)) = false := by simp; omega
    rw [this, Bool.or_false]
  | succ d ih =>
    intro j M f hj hg hf hrow
    have hlen := hrow.length
    have hlt := Mem.get_lt hg
    obtain ⟨p, hp, hget⟩ := hrow.sl.get encR2 (by omega) (i := t) (by omega)
    have hg0 := hget 0 (by omega)
    have hg1 := hget 1 (by omega)
    simp only [encR, hr, List.getElem?_cons_zero, List.getElem?_cons_succ, Nat.add_zero] at hg0 hg1
    have e0 := ldI_ld.2 hg0
    have e1 := ldI_ld.2 hg1
    have hE := p6_6_eq C prog.meth n l1 l2 l3 k nx i0 xa xl xc arr t j M
    have h0 : (0 : Int) ≤ (t : Int) := by omega
    have h2 : Nat.blt t xl = true := Mem.blt_iff.2 (by omega)
    have h3 : ((j : Int) < (nn : Int)) := by omega
    have hw : IntKind.wrap .i64 ((j : Int) + 1) = ((j + 1 : Nat) : Int) := by rw [wrap_i64 (by omega) (by omega)]; rfl
    have hsum : IntKind.wrap .i64 ((at_ : Int) + (j : Int)) = ((at_ + j : Nat) : Int) := by rw [wrap_i64 (by omega) (by omega)]; rfl
    have h4 : ¬ (((at_ + j : Nat) : Int) < 0) := by omega
    have h5 : ¬ (((at_ + j : Nat) : Int) ≥ (n : Int)) := by omega
    have h6 : (0 : Int) ≤ ((at_ + j : Nat) : Int) := by omega
    have h7 : Nat.blt (at_ + j) 40 = true := Mem.blt_iff.2 (by omega)
    have e2 : M.ldI .i64 arr (at_ + j) = some 0 := by
      refine ldI_ld.2 ?_
      rw [ld_fix hg, marks_get _ (by omega), hf (at_ + j) (by omega) (by omega)]; rfl
    have hst := st_fix (i := at_ + j) (vs := [.int .i64 1]) hg (by rw [marks_length]; simp; omega)
    rw [overL_one, marks_set _ (by omega)] at hst
    have h8 : ¬ ((0 : Int) > 0) := by omega
    simp only [Option.bind_some, List.getElem?_cons_zero, List.getElem?_cons_succ, int?_int, AVal.bool?, AVal.ptr?, AVal.sl?, AVal.tup?, AVal.agg?, AVal.ifc?, AVal.fn?, AVal.str?, List.head?_cons, List.tail_cons, List.isEmpty_nil, cond_true, cond_false, Option.isNone_some, Option.isNone_none, Bool.not_true, Bool.not_false, decide_true, decide_false, beq_self_eq_true, bne_self_eq_false, Int.reduceBEq, Int.reduceBNe, Int.cast_ofNat_Int, h0, Int.toNat_natCast, h2, hp, Nat.add_assoc, Nat.add_zero, Nat.zero_add, Nat.mul_one, e0, e1, h3, hsum, h4, h5, h6, h7, e2, h8, hst, hw] at hE
    obtain ⟨M', f', q1, q2, q3, q4⟩ := ih (j + 1) (M.put arr ⟨marks fun x => f x || x == at_ + j, .fixed⟩) (fun x => f x || x == at_ + j) (by omega) (get_put_self hlt) (fun x h1 h2 => by rw [hf x (by omega) h2]; simp; omega)
      (hrow.same (fun o ho => get_put_ne (fun e => harr (by subst e; exact ho))))
    refine ⟨M', f', hE.trans q1, q2, (Mem.But.put _ _ _).trans q3 (fun _ _ h => h), fun x => ?_⟩
    rw [q4]
    by_cases e : x = at_ + j
    · subst e
      have h1 : (f (at_ + j) || at_ + j == at_ + j) = true := by simp
      have h2 : (decide (at_ + j ≤ at_ + j) && decide (at_ + j < at_ + nn)) = true := by simp; omega
      rw [h1, h2, Bool.or_true, Bool.true_or]
    · have h9 : (x == at_ + j) = false := by simpa using e
      have h10 : decide (at_ + (j + 1) ≤ x) = decide (at_ + j ≤ x) := by simp; omega
      rw [h9, h10, Bool.or_false]
/-- Two windows have no byte together. -/
def Aparts (n : Nat) (ws : List Win) : Prop := (∀ w ∈ ws, ∃ a b : Nat, w.2 = ((a : Int), (b : Int)) ∧ a + b ≤ n) ∧ ws.Pairwise fun v w => ∀ x : Int, ¬ (v.2.1 ≤ x ∧ x < v.2.1 + v.2.2 ∧ w.2.1 ≤ x ∧ x < w.2.1 + w.2.2)
theorem mark_outer {n : Nat} {l1 : Option (Nat × Nat)} {l2 : Nat} {l3 : Cap} {k : Option (Nat × Nat)} {nx : Int} {i0 : Nat} {xa : Option (Nat × Nat)} {xl : Nat} {xc : Cap} {arr : Nat} {ws : List Win} (hn : n ≤ 40) (hws : Aparts n ws) (hxl : xl < 2 ^ 40) (harr : arr ∉ fpOf xa) (hi0 : i0 < 1000) :
    ∀ (d t : Nat) (M : Mem) (f : Nat → Bool), t + d = ws.length → M.get arr = some ⟨marks f, .fixed⟩ → (∀ x : Nat, f x = true → ∃ u, ∃ hu : u < ws.length, u < t ∧ (ws[u].2.1 ≤ x ∧ x < ws[u].2.1 + ws[u].2.2)) → Row M 2 encR xa xl xc (ws.map (·.2)) →
      ∃ M', p6_5 C prog.meth n l1 l2 l3 k nx i0 xa xl xc arr t M = p6_1 C prog.meth n l1 l2 l3 k nx ((i0 + 1 : Nat) : Int) M' ∧ Mem.But (· = arr) M M' := by
  intro d
  induction d with
  | zero =>
    intro t M f ht hg hf hrow
    have hlen := hrow.length
    rw [List.length_map] at hlen
    have hE := p6_5_eq C prog.meth n l1 l2 l3 k nx i0 xa xl xc arr t M
    have h1 : ¬ ((t : Int) < (xl : Int)) := by omega
    have hw : IntKind.wrap .i64 ((i0 : Int) + 1) = ((i0 + 1 : Nat) : Int) := by rw [wrap_i64 (by omega) (by omega)]; rfl
    simp only [h1, decide_false, cond_false, hw] at hE
    exact ⟨M, hE, Mem.But.refl _ _⟩
  | succ d ih =>
    intro t M f ht hg hf hrow
    have hlen := hrow.length
    rw [List.length_map] at hlen
    have htl : t < ws.length := by omega
    have hE := p6_5_eq C prog.meth n l1 l2 l3 k nx i0 xa xl xc arr t M
    have h1 : ((t : Int) < (xl : Int)) := by omega
    simp only [h1, decide_true, cond_true] at hE
    obtain ⟨a, b, hab, hle⟩ := hws.1 ws[t] (List.getElem_mem htl)
    obtain ⟨M1, f1, q1, q2, q3, q4⟩ := mark_inner (l1 := l1) (l2 := l2) (l3 := l3) (k := k) (nx := nx) (i0 := i0) (t := t) (at_ := a) (nn := b) (rs := ws.map (·.2)) (by simpa using htl) (by simpa using hab) hn hle hxl harr b 0 M f (by omega) hg (fun x h2 h3 => by
      cases hfx : f x with
      | false => rfl
      | true =>
        obtain ⟨u, hu, hut, g1, g2⟩ := hf x hfx
        have hp := (List.pairwise_iff_getElem.1 hws.2) u t hu htl hut x
        exfalso
        refine hp ⟨g1, g2, ?_, ?_⟩ <;> rw [hab] <;> simp only <;> omega) hrow
    obtain ⟨M2, s1, s2⟩ := ih (t + 1) M1 f1 (by omega) q2 (fun x hx => by
      rw [q4, Bool.or_eq_true, Bool.and_eq_true, decide_eq_true_eq, decide_eq_true_eq] at hx
      rcases hx with hx | ⟨h2, h3⟩
      · obtain ⟨u, hu, hut, g⟩ := hf x hx
        exact ⟨u, hu, by omega, g⟩
      · refine ⟨t, htl, by omega, ?_⟩
        rw [hab]; simp only; omega) (hrow.same (fun o ho => q3.2 o (by
          by_cases hl : 0 < xl
          · exact hrow.lt encR2 (by omega) hl o ho
          · omega) (fun e => harr (by subst e; exact ho))))
    exact ⟨M2, (hE.trans q1).trans s1, q3.trans s2 (fun _ _ h => h)⟩
theorem meets_apart {n : Nat} {v w : Int × Int} {a b c d : Nat} (hv : v = ((a : Int), (b : Int))) (hw : w = ((c : Int), (d : Int))) (h1 : a + b ≤ n) (h2 : c + d ≤ n) (hn : n ≤ 40) (h : meets v w = false) : ∀ x : Int, ¬ (v.1 ≤ x ∧ x < v.1 + v.2 ∧ w.1 ≤ x ∧ x < w.1 + w.2) := by
  subst hv hw
  unfold meets at h
  simp only at h ⊢
  rw [wrap_i64 (by omega) (by omega), wrap_i64 (by omega) (by omega)] at h
  simp only [Bool.and_eq_false_iff, decide_eq_false_iff_not] at h
  intro x
  omega
theorem apart_loop {M0 : Mem} {n : Nat} {a1 : Option (Nat × Nat)} {l1 : Nat} {cq : Cap} {o k : Nat} (hn : n ≤ 40) (hv : ArgRows M0 [.bool, .int .i64, .int .i64, .int .i64] a1 l1 cq) :
    ∀ (d i : Nat) (M : Mem) (fp : List Nat) (ws : List Win) (nx : Nat), i + d = 100 → nx ≤ i → ws.length ≤ i → M0.Upto M → IsBook M fp k (some (o, 0)) n (.known n) ws nx → (∀ q ∈ fp, M0.n ≤ q) → Aparts n ws →
      ∃ M', p6_1 C prog.meth n a1 l1 cq (some (k, 0)) nx i M = some (.bool true, M') := by
  intro d
  induction d with
  | zero =>
    intro i M fp ws nx hi hnx hwl hu hb hfp hap
    have hE := p6_1_eq C prog.meth n a1 l1 cq (some (k, 0)) nx i M
    have h200 : ¬ ((i : Int) < 100) := by omega
    simp only [h200, decide_false, cond_false] at hE
    exact ⟨M, by rw [hE]; cases decide ((i : Int) < (l1 : Int)) <;> rfl⟩
  | succ d ih =>
    intro i M fp ws nx hi hnx hwl hu hb hfp hap
    have hE := p6_1_eq C prog.meth n a1 l1 cq (some (k, 0)) nx i M
    by_cases hl1 : (i : Int) < (l1 : Int)
    rotate_left
    · simp only [hl1, decide_false, cond_false] at hE
      exact ⟨M, hE⟩
    have h200 : ((i : Int) < 100) := by omega
    simp only [h200, hl1, decide_true, cond_true] at hE
    -- the third part
    have tail : ∀ (M : Mem) (fp : List Nat) (ws : List Win) (nx : Nat), nx ≤ i + 1 → ws.length ≤ i + 1 → M0.Upto M → IsBook M fp k (some (o, 0)) n (.known n) ws nx → (∀ q ∈ fp, M0.n ≤ q) → Aparts n ws → ∃ M', p6_3 C prog.meth n a1 l1 cq (some (k, 0)) nx i M = some (.bool true, M') := by
      intro M fp ws nx hnx hwl hu hb hfp hap
      obtain ⟨M1, xa, xl, xc, c1, u1, r1, f1, own1⟩ := BookOut_C hb (by omega)
      have hlen := r1.length
      rw [List.length_map] at hlen
      have hE := p6_3_eq C prog.meth n a1 l1 cq (some (k, 0)) nx i M
      simp only [Option.bind_some, List.getElem?_cons_zero, List.getElem?_cons_succ, int?_int, AVal.bool?, AVal.ptr?, AVal.sl?, AVal.tup?, AVal.agg?, AVal.ifc?, AVal.fn?, AVal.str?, List.head?_cons, List.tail_cons, List.isEmpty_nil, cond_true, cond_false, Option.isNone_some, Option.isNone_none, Bool.not_true, Bool.not_false, decide_true, decide_false, beq_self_eq_true, bne_self_eq_false, Int.reduceBEq, Int.reduceBNe, Int.cast_ofNat_Int, c1, marks_none] at hE
      have n1 := u1.1
      have n0 := hu.1
      obtain ⟨M2, q1, q2⟩ := mark_outer (l1 := a1) (l2 := l1) (l3 := cq) (k := some (k, 0)) (nx := nx) (i0 := i) (xa := xa) (xl := xl) (xc := xc) (arr := M1.n) hn hap (by omega) (fun h => by have := (f1 _ h).2; omega) (by omega) ws.length 0 (M1.alloc ⟨marks fun _ => false, .fixed⟩) (fun _ => false) (by omega) (get_alloc_self _ _) (fun x hx => by cases hx) (r1.upto encR2 (by omega) (Mem.Upto.alloc _ _))
      have u2 : M.Upto M2 := ⟨by have := q2.1; simp only [Mem.n_alloc] at this; omega, fun q hq => by rw [q2.2 q (by simp only [Mem.n_alloc]; omega) (by omega), get_alloc_lt (by omega), u1.2 q hq]⟩
      obtain ⟨M', q⟩ := ih (i + 1) M2 fp ws nx (by omega) hnx hwl (hu.trans u2) (hb.upto u2) hfp hap
      exact ⟨M', (hE.trans q1).trans q⟩
    obtain ⟨p, vs, hp, hpn, hs, hld⟩ := hv i (by omega)
    simp only [ShowsR, Shows] at hs
    obtain ⟨v0, w0, rfl, ⟨bk, rfl⟩, v1, w1, rfl, ⟨id, rfl, wid⟩, v2, w2, rfl, ⟨at_, rfl, wat⟩, v3, w3, rfl, ⟨nn, rfl, wn⟩, rfl⟩ := hs
    have ldb : M.ldB p.1 (p.2 + i * 4) = some bk := by
      have := hld M hu 0 (by simp)
      simp only [List.length_cons, List.length_nil, Nat.zero_add, Nat.reduceAdd, Nat.add_zero, List.getElem?_cons_zero] at this
      unfold Mem.ldB; rw [this]; rfl
    have ld1 : M.ldI .i64 p.1 (p.2 + (i * 4 + 1)) = some id := ldI_ld.2 (by simpa using hld M hu 1 (by simp))
    have ld2 : M.ldI .i64 p.1 (p.2 + (i * 4 + 2)) = some at_ := ldI_ld.2 (by simpa using hld M hu 2 (by simp))
    have ld3 : M.ldI .i64 p.1 (p.2 + (i * 4 + 3)) = some nn := ldI_ld.2 (by simpa using hld M hu 3 (by simp))
    have hE2 := p6_2_eq C prog.meth n a1 l1 cq (some (k, 0)) nx i M
    have h0 : (0 : Int) ≤ (i : Int) := by omega
    have h2 : Nat.blt i l1 = true := Mem.blt_iff.2 (by omega)
    have hw1 : IntKind.wrap .i64 ((nx : Int) + 1) = ((nx + 1 : Nat) : Int) := by rw [wrap_i64 (by omega) (by omega)]; rfl
    simp only [h0, decide_true, cond_true, Int.toNat_natCast, h2, hp, Option.bind_some, Nat.add_assoc, Nat.add_zero, ldb, ld1] at hE2
    have n0 := hu.1
    cases bk with
    | true =>
      obtain ⟨r, hr, cr⟩ := Bring_C (i := id) (n := ((nx + 1 : Nat) : Int)) (M := Mem.empty) (by omega) (by omega)
      simp only [Option.bind_some, List.getElem?_cons_zero, List.getElem?_cons_succ, int?_int, AVal.bool?, AVal.ptr?, AVal.sl?, AVal.tup?, AVal.agg?, AVal.ifc?, AVal.fn?, AVal.str?, List.head?_cons, List.tail_cons, List.isEmpty_nil, cond_true, cond_false, Option.isNone_some, Option.isNone_none, Bool.not_true, Bool.not_false, decide_true, decide_false, beq_self_eq_true, bne_self_eq_false, Int.reduceBEq, Int.reduceBNe, Int.cast_ofNat_Int, hw1, cr] at hE2
      rcases BookBack_C (id := (r : Int)) hb (by omega) with ⟨q1, M1, c1, u1⟩ | ⟨j, hj, q1, M1, fp1, c1, b1, but1, fr1⟩
      · simp only [Option.bind_some, List.getElem?_cons_zero, List.getElem?_cons_succ, int?_int, AVal.bool?, AVal.ptr?, AVal.sl?, AVal.tup?, AVal.agg?, AVal.ifc?, AVal.fn?, AVal.str?, List.head?_cons, List.tail_cons, List.isEmpty_nil, cond_true, cond_false, Option.isNone_some, Option.isNone_none, Bool.not_true, Bool.not_false, decide_true, decide_false, beq_self_eq_true, bne_self_eq_false, Int.reduceBEq, Int.reduceBNe, Int.cast_ofNat_Int, c1] at hE2
        obtain ⟨M', q⟩ := tail M1 fp ws nx (by omega) (by omega) (hu.trans u1) (hb.upto u1) hfp hap
        exact ⟨M', (hE.trans hE2).trans q⟩
      · simp only [Option.bind_some, List.getElem?_cons_zero, List.getElem?_cons_succ, int?_int, AVal.bool?, AVal.ptr?, AVal.sl?, AVal.tup?, AVal.agg?, AVal.ifc?, AVal.fn?, AVal.str?, List.head?_cons, List.tail_cons, List.isEmpty_nil, cond_true, cond_false, Option.isNone_some, Option.isNone_none, Bool.not_true, Bool.not_false, decide_true, decide_false, beq_self_eq_true, bne_self_eq_false, Int.reduceBEq, Int.reduceBNe, Int.cast_ofNat_Int, c1] at hE2
        have hsub : (ws.take j ++ ws.drop (j + 1)).Sublist ws := by
          have e : (ws.take j ++ ws.drop (j + 1)).Sublist (ws.take j ++ ws.drop j) := by
            refine List.Sublist.append_left ?_ _
            rw [List.drop_eq_getElem_cons hj]
            exact List.sublist_cons_self _ _
          rwa [List.take_append_drop] at e
        obtain ⟨M', q⟩ := tail M1 fp1 _ nx (by omega) (by have := hsub.length_le; omega) ⟨by have := but1.1; omega, fun q hq => by rw [but1.2 q (by omega) (fun h => by have := hfp q h; omega), hu.2 q hq]⟩ b1
          (fun q hq => by rcases fr1 q hq with h | h; exact hfp q h; omega) ⟨fun w hw => hap.1 w (hsub.subset hw), hap.2.sublist hsub⟩
        exact ⟨M', (hE.trans hE2).trans q⟩
    | false =>
      rw [cond_false] at hE2
      have hE4 := p6_4_eq C prog.meth n a1 l1 cq (some (k, 0)) nx i M
      have hst := st_made (M := M) (cs := [.int .i64 0, .int .i64 0]) (vs := [.int .i64 at_, .int .i64 nn]) rfl
      have u1 := upto_made M ⟨[.int .i64 0, .int .i64 0], .fixed⟩ ⟨[.int .i64 at_, .int .i64 nn], .fixed⟩
      have g1 := get_made M ⟨[.int .i64 0, .int .i64 0], .fixed⟩ ⟨[.int .i64 at_, .int .i64 nn], .fixed⟩
      generalize (M.alloc ⟨[.int .i64 0, .int .i64 0], .fixed⟩).put M.n ⟨[.int .i64 at_, .int .i64 nn], .fixed⟩ = M1 at hst u1 g1
      have hn1 : IntKind.wrap .i64 ((n : Int) + 1) = ((n + 1 : Nat) : Int) := by rw [wrap_i64 (by omega) (by omega)]; rfl
      obtain ⟨x, hx, cx⟩ := Bring_C (i := at_) (n := ((n + 1 : Nat) : Int)) (M := Mem.empty) (by omega) (by omega)
      have hst2 := st_fix (i := 0) (vs := [.int .i64 (x : Int)]) g1 (by simp)
      have hov2 : overL [.int .i64 at_, .int .i64 nn] 0 [.int .i64 (x : Int)] = [.int .i64 (x : Int), .int .i64 nn] := rfl
      rw [hov2] at hst2
      have hl := Mem.get_lt g1
      have g2 : (M1.put M.n ⟨[.int .i64 (x : Int), .int .i64 nn], .fixed⟩).get M.n = some ⟨[.int .i64 (x : Int), .int .i64 nn], .fixed⟩ := get_put_self hl
      have u2 : M.Upto (M1.put M.n ⟨[.int .i64 (x : Int), .int .i64 nn], .fixed⟩) := ⟨u1.1, fun q hq => by rw [get_put_ne (by omega), u1.2 q hq]⟩
      generalize M1.put M.n ⟨[.int .i64 (x : Int), .int .i64 nn], .fixed⟩ = M2 at hst2 g2 u2
      have hn2 : IntKind.wrap .i64 (IntKind.wrap .i64 ((n : Int) - (x : Int)) + 1) = ((n - x + 1 : Nat) : Int) := by rw [wrap_i64 (n := (n : Int) - (x : Int)) (by omega) (by omega), wrap_i64 (by omega) (by omega)]; omega
      obtain ⟨y, hy, cy⟩ := Bring_C (i := nn) (n := ((n - x + 1 : Nat) : Int)) (M := Mem.empty) (by omega) (by omega)
      have hst3 := st_fix (i := 1) (vs := [.int .i64 (y : Int)]) g2 (by simp)
      have hov3 : overL [.int .i64 (x : Int), .int .i64 nn] 1 [.int .i64 (y : Int)] = [.int .i64 (x : Int), .int .i64 (y : Int)] := rfl
      rw [hov3] at hst3
      have hl2 := Mem.get_lt g2
      have g3 : (M2.put M.n ⟨[.int .i64 (x : Int), .int .i64 (y : Int)], .fixed⟩).get M.n = some ⟨[.int .i64 (x : Int), .int .i64 (y : Int)], .fixed⟩ := get_put_self hl2
      have u3 : M.Upto (M2.put M.n ⟨[.int .i64 (x : Int), .int .i64 (y : Int)], .fixed⟩) := ⟨u2.1, fun q hq => by rw [get_put_ne (by omega), u2.2 q hq]⟩
      generalize M2.put M.n ⟨[.int .i64 (x : Int), .int .i64 (y : Int)], .fixed⟩ = M3 at hst3 g3 u3
      have i1 : M1.ldI .i64 M.n 0 = some at_ := ldI_ld.2 (by rw [ld_fix g1]; rfl)
      have i2 : M2.ldI .i64 M.n 1 = some nn := ldI_ld.2 (by rw [ld_fix g2]; rfl)
      have i3 : M2.ldI .i64 M.n 0 = some (x : Int) := ldI_ld.2 (by rw [ld_fix g2]; rfl)
      have i4 : M3.ldI .i64 M.n 0 = some (x : Int) := ldI_ld.2 (by rw [ld_fix g3]; rfl)
      have i5 : M3.ldI .i64 M.n 1 = some (y : Int) := ldI_ld.2 (by rw [ld_fix g3]; rfl)
      simp only [Option.bind_some, List.getElem?_cons_zero, List.getElem?_cons_succ, int?_int, AVal.bool?, AVal.ptr?, AVal.sl?, AVal.tup?, AVal.agg?, AVal.ifc?, AVal.fn?, AVal.str?, List.head?_cons, List.tail_cons, List.isEmpty_nil, cond_true, cond_false, Option.isNone_some, Option.isNone_none, Bool.not_true, Bool.not_false, decide_true, decide_false, beq_self_eq_true, bne_self_eq_false, Int.reduceBEq, Int.reduceBNe, Int.cast_ofNat_Int, h0, Int.toNat_natCast, h2, hp, Nat.add_assoc, Nat.reduceAdd, ld2, ld3, hst, i1, hn1, cx, hst2, i2, i3, hn2, cy, hst3, i4, i5] at hE4
      have b3 := hb.upto u3
      have hw : within (x : Int) (y : Int) n = true := (within_iff (by omega)).2 ⟨by omega, by omega, by omega⟩
      obtain ⟨M4, n4, ⟨w4, _⟩ | ⟨w4, m4, c4, u4⟩ | ⟨w4, m4, c4, fp4, b4, but4, fr4⟩⟩ := BookLend_C (at_ := x) (n := y) b3 (ble_iff.2 (Nat.le_refl n)) (by omega) (by omega) (by omega) (by omega)
      · rw [hw] at w4; cases w4
      · have hy0 : ((y : Int) == 0) = false := by
          rw [List.any_eq_true] at m4
          obtain ⟨w, _, hm⟩ := m4
          unfold meets at hm
          simp only [Bool.and_eq_true, decide_eq_true_eq] at hm
          simp; omega
        have i6 : M4.ldI .i64 M.n 1 = some (y : Int) := ldI_ld.2 (by rw [ld_fix (u4.get g3)]; rfl)
        simp only [Option.bind_some, List.getElem?_cons_zero, List.getElem?_cons_succ, int?_int, AVal.bool?, AVal.ptr?, AVal.sl?, AVal.tup?, AVal.agg?, AVal.ifc?, AVal.fn?, AVal.str?, List.head?_cons, List.tail_cons, List.isEmpty_nil, cond_true, cond_false, Option.isNone_some, Option.isNone_none, Bool.not_true, Bool.not_false, decide_true, decide_false, beq_self_eq_true, bne_self_eq_false, Int.reduceBEq, Int.reduceBNe, Int.cast_ofNat_Int, c4, i6, hy0] at hE4
        obtain ⟨M', q⟩ := tail M4 fp ws nx (by omega) (by omega) ((hu.trans u3).trans u4) (b3.upto u4) hfp hap
        exact ⟨M', (hE.trans (hE2.trans hE4)).trans q⟩
      · simp only [Option.bind_some, List.getElem?_cons_zero, List.getElem?_cons_succ, int?_int, AVal.bool?, AVal.ptr?, AVal.sl?, AVal.tup?, AVal.agg?, AVal.ifc?, AVal.fn?, AVal.str?, List.head?_cons, List.tail_cons, List.isEmpty_nil, cond_true, cond_false, Option.isNone_some, Option.isNone_none, Bool.not_true, Bool.not_false, decide_true, decide_false, beq_self_eq_true, bne_self_eq_false, Int.reduceBEq, Int.reduceBNe, Int.cast_ofNat_Int, c4, hw1] at hE4
        have n3 := u3.1
        rw [hw1] at b4
        have hapn : Aparts n (ws ++ [((nx : Int), (x : Int), (y : Int))]) := by
          refine ⟨fun w hw' => ?_, ?_⟩
          · rcases List.mem_append.1 hw' with h | h
            · exact hap.1 w h
            · simp only [List.mem_singleton] at h
              subst h
              exact ⟨x, y, rfl, by omega⟩
          · rw [List.pairwise_append]
            refine ⟨hap.2, List.pairwise_singleton _ _, fun v hv' w hw' => ?_⟩
            simp only [List.mem_singleton] at hw'
            subst hw'
            obtain ⟨a, b, e1, e2⟩ := hap.1 v hv'
            rw [List.any_eq_false] at m4
            have := m4 v hv'
            exact meets_apart (n := n) e1 rfl e2 (by omega) hn (by simpa using this)
        obtain ⟨M', q⟩ := tail M4 fp4 _ (nx + 1) (by omega) (by simp; omega) ⟨by omega, fun q hq => by rw [but4.2 q (by omega) (fun h => by have := hfp q h; omega), u3.2 q (by omega), hu.2 q hq]⟩ b4
          (fun q hq => by rcases fr4 q hq with h | h; exact hfp q h; omega) hapn
        exact ⟨M', (hE.trans (hE2.trans hE4)).trans q⟩
theorem LeaseApart_C {M0 : Mem} {n : Int} {a1 : Option (Nat × Nat)} {l1 : Nat} {cq : Cap} (hv : ArgRows M0 [.bool, .int .i64, .int .i64, .int .i64] a1 l1 cq) : ∃ M', C 6 [.int .i64 n, .sl a1 l1 cq] M0 = some (.bool true, M') := by
  obtain ⟨Ma, hawake⟩ := awake02_C
  obtain ⟨r, hr, cr⟩ := Bring_C (i := n) (n := 40) (M := Mem.empty) (by omega) (by omega)
  have hE := p6_0_eq C prog.meth n a1 l1 cq M0
  have h0 : (0 : Int) ≤ (r : Int) := by omega
  have h1 : Nat.ble r r = true := ble_iff.2 (Nat.le_refl r)
  have h2 : Nat.ble (1 * r) (2 ^ 47) = true := ble_iff.2 (by omega)
  obtain ⟨M1, c1, u1, b1⟩ := New_C (ba := some (M0.n, 0)) (bl := r) (bc := .known r) (M := M0.alloc ⟨replZ [.int .u8 0] r, .fixed⟩)
  simp only [Option.bind_some, List.getElem?_cons_zero, List.getElem?_cons_succ, int?_int, AVal.bool?, AVal.ptr?, AVal.sl?, AVal.tup?, AVal.agg?, AVal.ifc?, AVal.fn?, AVal.str?, List.head?_cons, List.tail_cons, List.isEmpty_nil, cond_true, cond_false, Option.isNone_some, Option.isNone_none, Bool.not_true, Bool.not_false, decide_true, decide_false, beq_self_eq_true, bne_self_eq_false, Int.reduceBEq, Int.reduceBNe, Int.cast_ofNat_Int, hawake, cr, h0, Int.toNat_natCast, h1, h2, Bool.and_self, c1] at hE
  obtain ⟨M', q⟩ := apart_loop (n := r) (by omega) hv 100 0 M1 _ [] 0 (by omega) (by omega) (by simp) ((Mem.Upto.alloc _ _).trans u1) b1 (fun q hq => by simp at hq; omega) ⟨by simp, List.Pairwise.nil⟩
  exact ⟨M', c6 (hE.trans q)⟩
theorem LeaseApart_law : ∀ avs M, M.Whole → okL M.n avs → ShowsArgs M [(false, [.int .i64]), (false, [.sl 32 [.bool, .int .i64, .int .i64, .int .i64]])] avs → ∃ M', C 6 avs M = some (.bool true, M') := by
  intro avs M hM hok h
  simp only [ShowsArgs, ShowsArg] at h
  obtain ⟨v, _, rfl, ⟨t, ht, hv⟩, w, _, rfl, ⟨t', ht', hw⟩, rfl⟩ := h
  obtain rfl : t = .int .i64 := by simpa using ht.symm
  obtain rfl : t' = .sl 32 [.bool, .int .i64, .int .i64, .int .i64] := by simpa using ht'.symm
  simp only [Shows] at hv
  obtain ⟨n, rfl, hn⟩ := hv
  obtain ⟨a1, l1, c1, rfl, hl1⟩ := hw.form
  exact LeaseApart_C (fun i hi => hw.row hi)
end Go.Proofs.Ytndolnehppadnaa.M
