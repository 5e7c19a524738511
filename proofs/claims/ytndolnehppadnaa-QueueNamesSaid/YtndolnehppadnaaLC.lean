/- LeaseBooks. -/
import Derived.Test.YtndolnehppadnaaLB
set_option linter.unusedVariables false
set_option linter.unusedSimpArgs false
set_option linter.unnecessarySimpa false
namespace Go.Proofs.Ytndolnehppadnaa.M
open Go.Abs

theorem RBack_C {m : Nat} {fp : List Nat} {N id : Int} {ps : List RP} {M : Mem} (hb : IsRef M fp m N ps) (hws : ps.length < 2 ^ 40) :
    ((∀ t (ht : t < ps.length), id = (t : Int) → ps[t].2 = false) ∧ ∃ M', C 21 [.ptr (some (m, 0)), .int .i64 id] M = some (.int .i64 22, M') ∧ M.Upto M') ∨
      (∃ (t : Nat) (ht : t < ps.length), id = (t : Int) ∧ ps[t].2 = true ∧ ∃ M', C 21 [.ptr (some (m, 0)), .int .i64 id] M = some (.int .i64 0, M') ∧
        IsRef M' fp m N (ps.set t (ps[t].1, false)) ∧ Mem.But (· ∈ fp) M M') := by
  obtain ⟨aa, al, ac, ia, il, ic, hk, hrow, hrow2, rfl, hfp, hfp2, hmine⟩ := hb.ex
  have hkl := Mem.get_lt hk
  have hlen := hrow.length
  have hlen2 := hrow2.length
  rw [List.length_map] at hlen hlen2
  have hE := p21_0_eq C prog.meth (some (m, 0)) id M
  by_cases h0 : id < 0
  · simp (disch := (try simp only [Mem.n_alloc, Mem.n_put]); omega) only [Mem.ldI, Mem.ldB, Mem.ldS, Mem.ldP, Mem.ldL, Mem.ldM, Mem.ldF, Mem.ldN, Mem.ld, Mem.cells, AObj.live, Option.bind_some, List.getElem?_cons_zero, List.getElem?_cons_succ, int?_int, AVal.bool?, AVal.ptr?, AVal.sl?, AVal.tup?, AVal.agg?, AVal.ifc?, AVal.fn?, AVal.str?, List.head?_cons, List.tail_cons, List.isEmpty_nil, cond_true, cond_false, Option.isNone_some, Option.isNone_none, Nat.zero_add, Bool.not_true, Bool.not_false, decide_true, decide_false, get_alloc_self, get_alloc_lt, get_put_self, get_put_ne, beq_self_eq_true, bne_self_eq_false, slPtr, h0] at hE
    exact .inl ⟨fun t ht e => by omega, M, c21 hE, Mem.Upto.refl M⟩
  obtain ⟨t, rfl⟩ := Int.eq_ofNat_of_zero_le (show 0 ≤ id by omega)
  by_cases h1 : (t : Int) ≥ (al : Int)
  · simp (disch := (try simp only [Mem.n_alloc, Mem.n_put]); omega) only [Mem.ldI, Mem.ldB, Mem.ldS, Mem.ldP, Mem.ldL, Mem.ldM, Mem.ldF, Mem.ldN, Mem.ld, Mem.cells, AObj.live, Option.bind_some, List.getElem?_cons_zero, List.getElem?_cons_succ, int?_int, AVal.bool?, AVal.ptr?, AVal.sl?, AVal.tup?, AVal.agg?, AVal.ifc?, AVal.fn?, AVal.str?, List.head?_cons, List.tail_cons, List.isEmpty_nil, cond_true, cond_false, Option.isNone_some, Option.isNone_none, Nat.zero_add, Bool.not_true, Bool.not_false, decide_true, decide_false, get_alloc_self, get_alloc_lt, get_put_self, get_put_ne, beq_self_eq_true, bne_self_eq_false, slPtr, h0, hk, h1] at hE
    exact .inl ⟨fun t' ht e => by omega, M, c21 hE, Mem.Upto.refl M⟩
  have ht : t < ps.length := by omega
  obtain ⟨q, hq, hget2⟩ := hrow2.sl.get encB1 (by omega) (i := t) (by omega)
  have hg2 := hget2 0 (by omega)
  simp only [encB, List.getElem_map, List.getElem?_cons_zero, Nat.add_zero] at hg2
  have hb2 : Nat.blt t il = true := Mem.blt_iff.2 (by omega)
  have e2 : M.ldB q.1 (q.2 + t * 1) = some ps[t].2 := by unfold Mem.ldB; rw [hg2]; rfl
  have hmL : M.ldL m 1 = some (aa, al, ac) := by simp [Mem.ldL, Mem.ld, Mem.cells, hk, AObj.live, AVal.sl?]
  have hmL2 : M.ldL m 2 = some (ia, il, ic) := by simp [Mem.ldL, Mem.ld, Mem.cells, hk, AObj.live, AVal.sl?]
  have h0' : (0 : Int) ≤ (t : Int) := by omega
  simp only [h0, h1, decide_false, decide_true, cond_false, cond_true, Option.bind_some, Nat.zero_add, hmL, hmL2, h0', Int.toNat_natCast, hb2, hq, e2] at hE
  cases hps : ps[t].2 with
  | false =>
    rw [hps, Bool.not_false, cond_true] at hE
    exact .inl ⟨fun t' ht' e => by have : t' = t := by omega
                                   subst this; exact hps, M, c21 hE, Mem.Upto.refl M⟩
  | true =>
    rw [hps, Bool.not_true, cond_false, p21_1_eq] at hE
    obtain ⟨rfl, _⟩ := slPtr_some hq
    obtain ⟨cs, kd, g1, g2⟩ := hmine q rfl
    obtain ⟨o, off⟩ := q
    obtain ⟨M', cs', s1, s2, s3, s4, s5, s6, s7⟩ := hrow2.set (y := false) encB1 (by omega) (i := t) (by omega) g1 g2
    simp only [encB] at s2
    simp only [Option.bind_some, Nat.zero_add, hmL2, h0', decide_true, cond_true, Int.toNat_natCast, hb2, hq, s2] at hE
    have hom : o ≠ m := (hfp2 o (by simp [fpOf])).2
    refine .inr ⟨t, ht, rfl, hps, M', c21 hE, ⟨aa, al, ac, _, il, ic, (s5.2 m hkl (fun h => hom h.symm)).trans hk, ?_, ?_, rfl, fun q hq => ⟨by have := (hfp q hq).1; omega, (hfp q hq).2⟩, fun q hq => ⟨by have := (hfp2 q hq).1; omega, (hfp2 q hq).2⟩, fun p hp => ?_⟩, s5.mono (fun q hq => by subst hq; simp [fpOf])⟩
    · have : (ps.set t (ps[t].1, false)).map (·.1) = ps.map (·.1) := by
        rw [List.map_set]
        apply List.ext_getElem?
        intro j
        rw [List.getElem?_set]
        by_cases e : t = j
        · subst e; simp [ht]
        · simp [e]
      rw [this]
      exact hrow.same (fun q hq => s5.2 q (hfp q hq).1 (fun h => (hfp q hq).2.2 (by subst h; simp [fpOf])))
    · rw [List.map_set]; exact s3
    · obtain rfl := Option.some.inj hp
      exact ⟨_, _, s6, g2⟩

/-- The ranges that are out. -/
def outR (ps : List RP) : List (Int × Int) := (ps.filter (·.2)).map (·.1)
def outW : Nat → List RP → List Win
  | _, [] => []
  | j, p :: ps => cond p.2 (((j : Int), p.1) :: outW (j + 1) ps) (outW (j + 1) ps)
theorem outW_R : ∀ (ps : List RP) (j : Nat), (outW j ps).map (·.2) = outR ps
  | [], j => rfl
  | (r, b) :: ps, j => by
    cases b
    · simp only [outW, cond_false]
      rw [outW_R ps (j + 1)]; rfl
    · simp only [outW, cond_true, List.map_cons]
      rw [outW_R ps (j + 1)]; rfl
theorem outW_any (r : Int × Int) : ∀ (ps : List RP) (j : Nat), (outW j ps).any (fun w => meets (w.2.1, w.2.2) r) = ps.any (fun p => p.2 && meets p.1 r)
  | [], j => rfl
  | (q, b) :: ps, j => by
    cases b
    · simp only [outW, cond_false, List.any_cons, Bool.false_and, Bool.false_or]
      exact outW_any r ps (j + 1)
    · simp only [outW, cond_true, List.any_cons, Bool.true_and]
      rw [outW_any r ps (j + 1)]
theorem outW_app (r : Int × Int) : ∀ (ps : List RP) (j : Nat), outW j (ps ++ [(r, true)]) = outW j ps ++ [(((j + ps.length : Nat) : Int), r)]
  | [], j => rfl
  | (q, b) :: ps, j => by
    have := outW_app r ps (j + 1)
    rw [show j + 1 + ps.length = j + (ps.length + 1) from by omega] at this
    cases b
    · simp only [outW, cond_false, List.cons_append, List.length_cons]
      exact this
    · simp only [outW, cond_true, List.cons_append, List.length_cons]
      rw [this]
theorem outW_len : ∀ (ps : List RP) (j : Nat), (outW j ps).length ≤ ps.length
  | [], j => by simp [outW]
  | (q, b) :: ps, j => by
    have := outW_len ps (j + 1)
    cases b
    · simp only [outW, cond_false, List.length_cons]; omega
    · simp only [outW, cond_true, List.length_cons]; omega
theorem outW_id : ∀ (ps : List RP) (j : Nat) (w : Win), w ∈ outW j ps → ∃ t, ∃ ht : t < ps.length, w.1 = ((j + t : Nat) : Int) ∧ ps[t].2 = true
  | [], j, w, h => by simp [outW] at h
  | (q, b) :: ps, j, w, h => by
    have hrec : w ∈ outW (j + 1) ps → ∃ t, ∃ ht : t < ((q, b) :: ps).length, w.1 = ((j + t : Nat) : Int) ∧ ((q, b) :: ps)[t].2 = true := fun h => by
      obtain ⟨t, ht, h1, h2⟩ := outW_id ps (j + 1) w h
      exact ⟨t + 1, by simp; omega, by rw [h1]; omega, by simpa using h2⟩
    cases b
    · simp only [outW, cond_false] at h; exact hrec h
    · simp only [outW, cond_true, List.mem_cons] at h
      rcases h with rfl | h
      · exact ⟨0, by simp, rfl, rfl⟩
      · exact hrec h
theorem outW_mem : ∀ (ps : List RP) (j t : Nat) (ht : t < ps.length), ps[t].2 = true → ∃ w ∈ outW j ps, w.1 = ((j + t : Nat) : Int)
  | (q, b) :: ps, j, 0, ht, h => by
    simp only [List.getElem_cons_zero] at h
    subst h
    exact ⟨((j : Int), q), by simp [outW], rfl⟩
  | (q, b) :: ps, j, t + 1, ht, h => by
    obtain ⟨w, h1, h2⟩ := outW_mem ps (j + 1) t (by simpa using ht) (by simpa using h)
    refine ⟨w, ?_, by rw [h2]; omega⟩
    cases b
    · simp only [outW, cond_false]; exact h1
    · simp only [outW, cond_true, List.mem_cons]; exact .inr h1
theorem outW_back : ∀ (ps : List RP) (j i : Nat) (hi : i < (outW j ps).length) (t : Nat) (ht : t < ps.length), (outW j ps)[i].1 = ((j + t : Nat) : Int) → (outW j ps).take i ++ (outW j ps).drop (i + 1) = outW j (ps.set t (ps[t].1, false))
  | (q, b) :: ps, j, i, hi, t, ht, h => by
    cases b with
    | false =>
      simp only [outW, cond_false] at hi h ⊢
      cases t with
      | zero =>
        obtain ⟨t', ht', h1, _⟩ := outW_id ps (j + 1) _ (List.getElem_mem hi)
        rw [h1] at h; omega
      | succ t =>
        simp only [List.set_cons_succ, outW, cond_false, List.getElem_cons_succ]
        exact outW_back ps (j + 1) i hi t (by simpa using ht) (by rw [h]; omega)
    | true =>
      simp only [outW, cond_true] at hi h ⊢
      cases i with
      | zero =>
        simp only [List.getElem_cons_zero] at h
        have : t = 0 := by omega
        subst this
        simp [outW]
      | succ i =>
        simp only [List.getElem_cons_succ] at h
        cases t with
        | zero =>
          obtain ⟨t', ht', h1, _⟩ := outW_id ps (j + 1) _ (List.getElem_mem (show i < (outW (j + 1) ps).length by simpa using hi))
          rw [h1] at h; omega
        | succ t =>
          simp only [List.set_cons_succ, outW, cond_true, List.getElem_cons_succ, List.take_succ_cons, List.drop_succ_cons, List.cons_append]
          rw [outW_back ps (j + 1) i (by simpa using hi) t (by simpa using ht) (by rw [h]; omega)]

theorem rout_loop {m : Nat} {N : Int} {ps : List RP} {aa : Option (Nat × Nat)} {al : Nat} {ac : Cap} {ia : Option (Nat × Nat)} {il : Nat} {ic : Cap} (hal : ps.length < 2 ^ 40) {M0 : Mem} (hk : M0.get m = some ⟨[.int .i64 N, .sl aa al ac, .sl ia il ic], .fixed⟩)
    (hrow : Row M0 2 encR aa al ac (ps.map (·.1))) (hrow2 : Row M0 1 encB ia il ic (ps.map (·.2))) :
    ∀ (d i : Nat) (M : Mem) (a : Option (Nat × Nat)) (l : Nat) (c : Cap), i + d = ps.length → Row M 2 encR a l c (outR (ps.take i)) → (∀ o ∈ fpOf a, M0.n ≤ o ∧ o < M.n) → M0.Upto M →
      ∃ M' a' l' c', p26_1 C prog.meth (some (m, 0)) a l c i M = some (.sl a' l' c', M') ∧ M0.Upto M' ∧ Row M' 2 encR a' l' c' (outR ps) ∧ (∀ o ∈ fpOf a', M0.n ≤ o ∧ o < M'.n) := by
  have hlen := hrow.length
  have hlen2 := hrow2.length
  rw [List.length_map] at hlen hlen2
  intro d
  induction d with
  | zero =>
    intro i M a l c hi hr hf hu
    have hk1 := hu.get hk
    have hE := p26_1_eq C prog.meth (some (m, 0)) a l c i M
    have h1 : ¬ ((i : Int) < (al : Int)) := by omega
    rw [List.take_of_length_le (by omega)] at hr
    simp (disch := (try simp only [Mem.n_alloc, Mem.n_put]); omega) only [Mem.ldI, Mem.ldB, Mem.ldS, Mem.ldP, Mem.ldL, Mem.ldM, Mem.ldF, Mem.ldN, Mem.ld, Mem.cells, AObj.live, Option.bind_some, List.getElem?_cons_zero, List.getElem?_cons_succ, int?_int, AVal.bool?, AVal.ptr?, AVal.sl?, AVal.tup?, AVal.agg?, AVal.ifc?, AVal.fn?, AVal.str?, List.head?_cons, List.tail_cons, List.isEmpty_nil, cond_true, cond_false, Option.isNone_some, Option.isNone_none, Nat.zero_add, Bool.not_true, Bool.not_false, decide_true, decide_false, get_alloc_self, get_alloc_lt, get_put_self, get_put_ne, beq_self_eq_true, bne_self_eq_false, slPtr, hk1, h1] at hE
    exact ⟨M, a, l, c, hE, hu, hr, hf⟩
  | succ d ih =>
    intro i M a l c hi hr hf hu
    have hil : i < ps.length := by omega
    have hk1 := hu.get hk
    have hn0 := hu.1
    obtain ⟨p, hp, hget⟩ := (hrow.upto encR2 (by omega) hu).sl.get encR2 (by omega) (i := i) (by omega)
    obtain ⟨q, hq, hget2⟩ := (hrow2.upto encB1 (by omega) hu).sl.get encB1 (by omega) (i := i) (by omega)
    have hg0 := hget 0 (by omega)
    have hg1 := hget 1 (by omega)
    have hg2 := hget2 0 (by omega)
    simp only [encR, encB, List.getElem_map, List.getElem?_cons_zero, List.getElem?_cons_succ, Nat.add_zero] at hg0 hg1 hg2
    have e0 := ldI_ld.2 hg0
    have e1 := ldI_ld.2 hg1
    have e2 : M.ldB q.1 (q.2 + i * 1) = some ps[i].2 := by unfold Mem.ldB; rw [hg2]; rfl
    have hE := p26_1_eq C prog.meth (some (m, 0)) a l c i M
    have h0 : (0 : Int) ≤ (i : Int) := by omega
    have h1 : (i : Int) < (al : Int) := by omega
    have h2 : Nat.blt i al = true := Mem.blt_iff.2 (by omega)
    have h3 : Nat.blt i il = true := Mem.blt_iff.2 (by omega)
    have hw : IntKind.wrap .i64 ((i : Int) + 1) = ((i + 1 : Nat) : Int) := by rw [wrap_i64 (by omega) (by omega)]; rfl
    have hmL : M.ldL m 1 = some (aa, al, ac) := by simp [Mem.ldL, Mem.ld, Mem.cells, hk1, AObj.live, AVal.sl?]
    have hmL2 : M.ldL m 2 = some (ia, il, ic) := by simp [Mem.ldL, Mem.ld, Mem.cells, hk1, AObj.live, AVal.sl?]
    simp only [Option.bind_some, Nat.zero_add, hmL, hmL2, h1, h0, decide_true, cond_true, Int.toNat_natCast, h2, h3, hp, hq, Nat.add_assoc, e0, e1, e2, hw] at hE
    have htake : ps.take (i + 1) = ps.take i ++ [ps[i]] := by rw [List.take_add_one, List.getElem?_eq_getElem hil]; rfl
    have hla := hr.length
    have hlo : (outR (ps.take i)).length ≤ i := by
      unfold outR
      rw [List.length_map]
      exact Nat.le_trans (List.length_filter_le _ _) (by simp; omega)
    cases hb : ps[i].2 with
    | false =>
      rw [hb, cond_false] at hE
      have : outR (ps.take (i + 1)) = outR (ps.take i) := by rw [htake]; unfold outR; rw [List.filter_append, List.map_append]; simp [List.filter_cons, hb]
      obtain ⟨M', a', l', c', q1, q2⟩ := ih (i + 1) M a l c (by omega) (by rw [this]; exact hr) hf hu
      exact ⟨M', a', l', c', hE.trans q1, q2⟩
    | true =>
      have hout : outR (ps.take (i + 1)) = outR (ps.take i) ++ [ps[i].1] := by rw [htake]; unfold outR; rw [List.filter_append, List.map_append]; simp [List.filter_cons, hb]
      obtain ⟨M3, happ, hrow3, hn3, hbut3, hg3⟩ := hr.push (bytes := 16) (y := ps[i].1) (cs := [.int .i64 ps[i].1.1, .int .i64 ps[i].1.2]) encR2 (by omega) rfl (by omega)
      rw [hb, cond_true] at hE
      simp only [happ] at hE
      obtain ⟨M', a', l', c', q1, q2⟩ := ih (i + 1) M3 _ _ _ (by omega) (by rw [hout]; exact hrow3) (fun o ho => by simp only [fpOf, List.mem_singleton] at ho; omega)
        ⟨by omega, fun o ho => by rw [hbut3.2 o (by omega) (fun h => by have := (hf o h).1; omega), hu.2 o ho]⟩
      exact ⟨M', a', l', c', hE.trans q1, q2⟩
theorem ROut_C {m : Nat} {fp : List Nat} {N : Int} {ps : List RP} {M : Mem} (hb : IsRef M fp m N ps) (hws : ps.length < 2 ^ 40) :
    ∃ M' a l c, C 26 [.ptr (some (m, 0))] M = some (.sl a l c, M') ∧ M.Upto M' ∧ Row M' 2 encR a l c (outR ps) ∧ (∀ o ∈ fpOf a, M.n ≤ o ∧ o < M'.n) := by
  obtain ⟨aa, al, ac, ia, il, ic, hk, hrow, hrow2, rfl, hfp, hfp2, hmine⟩ := hb.ex
  obtain ⟨M', a, l, c, q1, q2⟩ := rout_loop hws hk hrow hrow2 ps.length 0 M none 0 (.known 0) (by omega) (Row.nil _ _ _) (by simp [fpOf]) (Mem.Upto.refl M)
  exact ⟨M', a, l, c, c26 ((p26_0_eq _ _ _ _).trans q1), q2⟩
theorem same_loop {a : Option (Nat × Nat)} {l : Nat} {c : Cap} {a' : Option (Nat × Nat)} {c' : Cap} {M : Mem} {xs ys : List (Int × Int)} (hx : Sl M 2 encR a l c xs) (hy : Sl M 2 encR a' l c' ys) (hl : l < 2 ^ 62) :
    ∀ (d i : Nat), i + d = l → (∀ j, j < i → xs[j]? = ys[j]?) → p25_1 C prog.meth a l c a' l c' i M = some (.bool (decide (xs = ys)), M) := by
  have lx := hx.2
  have ly := hy.2
  intro d
  induction d with
  | zero =>
    intro i hi hj
    rw [p25_1_eq]
    have : xs = ys := by
      apply List.ext_getElem?
      intro j
      by_cases h : j < l
      · exact hj j (by omega)
      · rw [List.getElem?_eq_none (by omega), List.getElem?_eq_none (by omega)]
    have h1 : ¬ ((i : Int) < (l : Int)) := by omega
    simp [h1, this]
  | succ d ih =>
    intro i hi hj
    rw [p25_1_eq]
    have h1 : (i : Int) < (l : Int) := by omega
    have h2 : Nat.blt i l = true := Mem.blt_iff.2 (by omega)
    obtain ⟨p, hp, hpv⟩ := hx.get encR2 (by omega) (i := i) (by omega)
    obtain ⟨q, hq, hqv⟩ := hy.get encR2 (by omega) (i := i) (by omega)
    have p0 := hpv 0 (by omega)
    have p1 := hpv 1 (by omega)
    have q0 := hqv 0 (by omega)
    have q1 := hqv 1 (by omega)
    simp only [encR, List.getElem?_cons_zero, List.getElem?_cons_succ, Nat.add_zero] at p0 p1 q0 q1
    have e0 := ldI_ld.2 p0
    have e1 := ldI_ld.2 p1
    have f0 := ldI_ld.2 q0
    have f1 := ldI_ld.2 q1
    have hw : IntKind.wrap .i64 ((i : Int) + 1) = ((i + 1 : Nat) : Int) := by rw [wrap_i64 (by omega) (by omega)]; rfl
    simp only [h1, decide_true, cond_true, Int.natCast_nonneg, Int.toNat_natCast, h2, hp, hq, Option.bind_some, Nat.add_assoc, e0, e1, f0, f1, hw]
    by_cases he : xs[i] = ys[i]
    · have : (!(xs[i].1 == ys[i].1 && (xs[i].2 == ys[i].2 && true))) = false := by simp [he]
      rw [this, cond_false]
      refine ih (i + 1) (by omega) (fun j hj' => ?_)
      by_cases e : j = i
      · subst e; rw [List.getElem?_eq_getElem (by omega), List.getElem?_eq_getElem (by omega), he]
      · exact hj j (by omega)
    · have : (!(xs[i].1 == ys[i].1 && (xs[i].2 == ys[i].2 && true))) = true := by
        simp only [Bool.and_true, Bool.not_eq_true', Bool.and_eq_false_iff, beq_eq_false_iff_ne]
        by_cases h : xs[i].1 = ys[i].1
        · exact .inr (fun h' => he (Prod.ext h h'))
        · exact .inl h
      rw [this, cond_true]
      have hne : xs ≠ ys := fun h => he (by subst h; rfl)
      simp [hne]
theorem Same_C {a : Option (Nat × Nat)} {l : Nat} {c : Cap} {a' : Option (Nat × Nat)} {l' : Nat} {c' : Cap} {M : Mem} {xs ys : List (Int × Int)} (hx : Sl M 2 encR a l c xs) (hy : Sl M 2 encR a' l' c' ys) (hl : l < 2 ^ 62) :
    C 25 [.sl a l c, .sl a' l' c'] M = some (.bool (decide (xs = ys)), M) := by
  refine c25 ?_
  rw [p25_0_eq]
  by_cases h : l = l'
  · subst h
    have : (((l : Nat) : Int) != (l : Int)) = false := by simp
    rw [this, cond_false]
    exact same_loop hx hy hl l 0 (by omega) (fun j hj => by omega)
  · have : (((l : Nat) : Int) != (l' : Int)) = true := by simp; omega
    rw [this, cond_true]
    have hne : xs ≠ ys := fun e => h (by rw [← hx.2, ← hy.2, e])
    simp [hne]
/-- The bytes that the book is over: none, or an object of its own. -/
def InOk (M : Mem) (a : Option (Nat × Nat)) (l : Nat) (c : Cap) (xs : List Int) : Prop := xs.length = l ∧ ((a = none ∧ c = .known 0 ∧ l = 0) ∨ ∃ o, a = some (o, 0) ∧ c = .unk 0 ∧ M.get o = some ⟨xs.map (.int .u8), .grow 1⟩)
theorem InOk.same {M M' : Mem} {a : Option (Nat × Nat)} {l : Nat} {c : Cap} {xs : List Int} (h : InOk M a l c xs) (hg : ∀ o ∈ fpOf a, M'.get o = M.get o) : InOk M' a l c xs := by
  obtain ⟨h0, h | ⟨o, rfl, h2, h3⟩⟩ := h
  · exact ⟨h0, .inl h⟩
  · exact ⟨h0, .inr ⟨o, rfl, h2, (hg o (by simp [fpOf])).trans h3⟩⟩
theorem InOk.lt {M : Mem} {a : Option (Nat × Nat)} {l : Nat} {c : Cap} {xs : List Int} (h : InOk M a l c xs) : ∀ o ∈ fpOf a, o < M.n := by
  obtain ⟨h0, ⟨rfl, _⟩ | ⟨o, rfl, h2, h3⟩⟩ := h
  · simp [fpOf]
  · intro q hq
    simp only [fpOf, List.mem_singleton] at hq
    subst hq; exact Mem.get_lt h3
theorem InOk.ints {M : Mem} {a : Option (Nat × Nat)} {l : Nat} {c : Cap} {xs : List Int} (h : InOk M a l c xs) : M.ints .u8 a l c = some xs := by
  obtain ⟨rfl, ⟨rfl, rfl, h1⟩ | ⟨o, rfl, rfl, h3⟩⟩ := h
  · rw [List.length_eq_zero_iff] at h1; subst h1; rfl
  · exact ints_whole h3 (by simp) rfl
theorem InOk.room {M : Mem} {a : Option (Nat × Nat)} {l : Nat} {c : Cap} {xs : List Int} (h : InOk M a l c xs) : M.room 1 a c l = true := by
  obtain ⟨h0, ⟨rfl, rfl, rfl⟩ | ⟨o, rfl, rfl, h3⟩⟩ := h
  · rfl
  · exact room_own h3 (.inl rfl) (by simp [h0])
theorem CopyBytes_In {a : Option (Nat × Nat)} {l : Nat} {c : Cap} {M : Mem} {xs : List Int} (hx : M.ints .u8 a l c = some xs) (hl : l ≤ 2 ^ 47) :
    ∃ M' a' c', C 11 [.sl a l c] M = some (.sl a' l c', M') ∧ M.Upto M' ∧ InOk M' a' l c' xs ∧ (∀ o ∈ fpOf a', M.n ≤ o) := by
  have h := CopyBytes_C hx hl
  have hlx := ints_length hx
  by_cases h0 : l = 0
  · subst h0
    exact ⟨_, _, _, h, Mem.Upto.refl M, ⟨hlx, .inl ⟨rfl, rfl, rfl⟩⟩, by simp [fpOf]⟩
  · rw [if_neg h0] at h
    exact ⟨_, _, _, h, Mem.Upto.alloc _ _, ⟨hlx, .inr ⟨_, rfl, rfl, get_alloc_self _ _⟩⟩, fun o ho => by simp only [fpOf, List.mem_singleton] at ho; omega⟩
theorem over_nil {M : Mem} : ∃ M', C 15 [.sl none 0 (.known 0), .sl none 0 (.known 0), .agg [.int .i64 0, .int .i64 0]] M = some (.bool true, M') ∧ M.Upto M' := by
  have hE := p15_0_eq C prog.meth none 0 (.known 0) none 0 (.known 0) 0 0 M
  have hsl := fun (M : Mem) (K : Option (Nat × Nat) → Nat → Cap → Option (AVal × Mem)) => slcK_known (M := M) (s := 1) (a := none) (len := 0) (n := 0) (l := 0) (h := 0) (kl := .i64) (kh := .i64) (K := K) (by omega) (by omega)
  have hw0 : IntKind.wrap .i64 (0 + 0) = ((0 : Nat) : Int) := by decide
  have heq := fun (M : Mem) => EqBytes_C (M := M) (a := none) (l := 0) (c := .known 0) (a' := none) (l' := 0) (c' := .known 0) (xs := []) (ys := []) rfl rfl (by omega)
  have hcp := fun (M : Mem) => CopyBytes_C (M := M) (a := none) (l := 0) (c := .known 0) (xs := []) rfl (by omega)
  have h00 : ((0 : Nat) : Int) = 0 := rfl
  have hb00 : Nat.beq 0 0 = true := rfl
  simp (disch := (try simp only [Mem.n_alloc, Mem.n_put]); omega) only [Mem.ldI, Mem.ldB, Mem.ldS, Mem.ldP, Mem.ldL, Mem.ldM, Mem.ldF, Mem.ldN, Mem.ld, Mem.cells, AObj.live, Option.bind_some, List.getElem?_cons_zero, List.getElem?_cons_succ, int?_int, AVal.bool?, AVal.ptr?, AVal.sl?, AVal.tup?, AVal.agg?, AVal.ifc?, AVal.fn?, AVal.str?, List.head?_cons, List.tail_cons, List.isEmpty_nil, cond_true, cond_false, Option.isNone_some, Option.isNone_none, Nat.zero_add, Bool.not_true, Bool.not_false, decide_true, decide_false, get_alloc_self, get_alloc_lt, get_put_self, get_put_ne, beq_self_eq_true, bne_self_eq_false, slPtr, hw0] at hE
  have e1 : slcK false 1 none 0 (Cap.known 0) (M.alloc ⟨[.int .i64 0, .int .i64 0], .fixed⟩) (some (.int .i64 0)) (some (.int .i64 ((0 : Nat) : Int))) none = slcK (β := AVal × Mem) false 1 none 0 (Cap.known 0) (M.alloc ⟨[.int .i64 0, .int .i64 0], .fixed⟩) (some (.int .i64 ((0 : Nat) : Int))) (some (.int .i64 ((0 : Nat) : Int))) none := rfl
  rw [e1, hsl] at hE
  simp only [h00, bne_self_eq_false, cond_false, hb00, cond_true, Nat.sub_self, heq, Option.bind_some, AVal.bool?, decide_true, Bool.not_true] at hE
  rw [p15_1_eq] at hE
  simp only [hcp, if_true, Option.bind_some, AVal.sl?] at hE
  rw [p15_2_eq] at hE
  have hnl : ¬ ((0 : Int) < ((0 : Nat) : Int)) := by omega
  simp only [hnl, decide_false, cond_false] at hE
  have hy : ∀ M : Mem, (M.alloc ⟨[.int .u8 238], .fixed⟩).raws 1 (some (M.n, 0)) 1 (.known 1) = some [.int .u8 238] := fun (M : Mem) => ints_raws.1 (ints_whole (k := .u8) (xs := [238]) (c := .known 1) (get_alloc_self M ⟨[.int .u8 238], .fixed⟩) (by simp) rfl)
  rw [appK_more (M := (M.alloc ⟨[.int .i64 0, .int .i64 0], .fixed⟩).alloc ⟨[.int .u8 238], .fixed⟩) (xs := []) rfl (hy _) (by simp) (by simp)] at hE
  have hw1 : IntKind.wrap .i64 (0 + 1) = 1 := by decide
  simp (disch := (try simp only [Mem.n_alloc, Mem.n_put]); omega) only [Mem.ldI, Mem.ldB, Mem.ldS, Mem.ldP, Mem.ldL, Mem.ldM, Mem.ldF, Mem.ldN, Mem.ld, Mem.cells, AObj.live, Option.bind_some, List.getElem?_cons_zero, List.getElem?_cons_succ, int?_int, AVal.bool?, AVal.ptr?, AVal.sl?, AVal.tup?, AVal.agg?, AVal.ifc?, AVal.fn?, AVal.str?, List.head?_cons, List.tail_cons, List.isEmpty_nil, cond_true, cond_false, Option.isNone_some, Option.isNone_none, Nat.zero_add, Bool.not_true, Bool.not_false, decide_true, decide_false, get_alloc_self, get_alloc_lt, get_put_self, get_put_ne, beq_self_eq_true, bne_self_eq_false, slPtr, heq] at hE
  have hc1 : (((1 : Nat) : Int) == IntKind.wrap .i64 (0 + 1)) = true := by decide
  rw [hc1, cond_true] at hE
  exact ⟨_, c15 hE, ((Mem.Upto.alloc M _).alloc_r _).alloc_r _⟩
theorem over_In {a : Option (Nat × Nat)} {l n at_ : Nat} {c : Cap} {xs : List Int} {M : Mem} (h : InOk M a l c xs) (hb : ∀ x ∈ xs, 0 ≤ x ∧ x < 256) (hn : at_ + n ≤ l) (hl2 : l < 2 ^ 47) :
    ∃ M', C 15 [.sl a l c, .sl (cond (Nat.beq (at_ + n) at_) a (adv a (at_ * 1))) n (.known n), .agg [.int .i64 (at_ : Int), .int .i64 (n : Int)]] M = some (.bool true, M') ∧ M.Upto M' := by
  obtain ⟨h0, ⟨rfl, rfl, rfl⟩ | ⟨o, rfl, rfl, h3⟩⟩ := h
  · have : at_ = 0 := by omega
    subst this
    have : n = 0 := by omega
    subst this
    exact over_nil
  · refine over_C h3 hb (by omega) hn hl2 ?_
    intro hpos
    rw [Go.Abs.beq_false (by omega), cond_false]
    simp [adv]

/-- The ranges that are told are spoiled: nothing else changes. -/
theorem spoil_loop {b1 : Option (Nat × Nat)} {b2 : Nat} {b3 : Cap} {l1 : Option (Nat × Nat)} {l2 : Nat} {l3 : Cap} {i1 : Option (Nat × Nat)} {i2 : Nat} {i3 : Cap} {k m : Option (Nat × Nat)} {i0 : Int} {o xl : Nat} {y1 : Option (Nat × Nat)} {y2 : Nat} {y3 : Cap} (hxl : xl < 2 ^ 60) :
    ∀ (d i : Nat) (M : Mem) (cs : List AVal), i + d = xl → M.get o = some ⟨cs, .grow 2⟩ → cs.length = xl * 2 →
      ∃ M', p5_5 C prog.meth b1 b2 b3 l1 l2 l3 i1 i2 i3 k m i0 (some (o, 0)) xl (.unk 0) y1 y2 y3 i M = p5_5 C prog.meth b1 b2 b3 l1 l2 l3 i1 i2 i3 k m i0 (some (o, 0)) xl (.unk 0) y1 y2 y3 xl M' ∧ M'.n = M.n ∧ Mem.But (· = o) M M' := by
  intro d
  induction d with
  | zero =>
    intro i M cs hi hg hlen
    obtain rfl : i = xl := by omega
    exact ⟨M, rfl, rfl, Mem.But.refl _ _⟩
  | succ d ih =>
    intro i M cs hi hg hlen
    have hlt := Mem.get_lt hg
    have hE := p5_5_eq C prog.meth b1 b2 b3 l1 l2 l3 i1 i2 i3 k m i0 (some (o, 0)) xl (.unk 0) y1 y2 y3 i M
    have h0 : (0 : Int) ≤ (i : Int) := by omega
    have h1 : (i : Int) < (xl : Int) := by omega
    have h2 : Nat.blt i xl = true := Mem.blt_iff.2 (by omega)
    have hw : IntKind.wrap .i64 ((i : Int) + 1) = ((i + 1 : Nat) : Int) := by rw [wrap_i64 (by omega) (by omega)]; rfl
    have hst := st_grow (i := i * 2) (vs := [.int .i64 (-9)]) hg (by simp; omega)
    have hsp : slPtr (some (o, 0)) (.unk 0) = some (o, 0) := rfl
    simp only [h1, decide_true, cond_true, h0, Int.toNat_natCast, h2, hsp, Option.bind_some, Nat.zero_add, Nat.add_zero, hst, hw] at hE
    obtain ⟨M', q1, q2, q3⟩ := ih (i + 1) (M.put o ⟨overL cs (i * 2) [.int .i64 (-9)], .grow 2⟩) _ (by omega) (get_put_self hlt) (by rw [overL_length _ _ _ (by simp; omega)]; exact hlen)
    exact ⟨M', hE.trans q1, q2.trans rfl, (Mem.But.put _ _ _).trans q3 (fun _ _ h => h)⟩
/-- What stands between two calls. -/
structure Books (M0 M : Mem) (fp fq : List Nat) (k m : Nat) (a : Option (Nat × Nat)) (l : Nat) (c : Cap) (xs : List Int) (ps : List RP) : Prop where
  up : M0.Upto M
  bk : IsBook M fp k a l c (outW 0 ps) (ps.length : Int)
  rf : IsRef M fq m l ps
  inn : InOk M a l c xs
  ap : Apart fp fq
  ap1 : Apart (fpOf a) fp
  ap2 : Apart (fpOf a) fq
  new : (∀ o ∈ fp, M0.n ≤ o) ∧ (∀ o ∈ fq, M0.n ≤ o) ∧ (∀ o ∈ fpOf a, M0.n ≤ o)
section
variable {M0 M M' : Mem} {fp fq : List Nat} {k m : Nat} {a : Option (Nat × Nat)} {l : Nat} {c : Cap} {xs : List Int} {ps : List RP}
theorem Books.upto (h : Books M0 M fp fq k m a l c xs ps) (hu : M.Upto M') : Books M0 M' fp fq k m a l c xs ps :=
  ⟨h.up.trans hu, h.bk.upto hu, h.rf.upto hu, h.inn.same (fun o ho => hu.2 o (h.inn.lt o ho)), h.ap, h.ap1, h.ap2, h.new⟩
/-- The program's book goes on. -/
theorem Books.one {fp' : List Nat} {ws : List Win} {nx : Int} (h : Books M0 M fp fq k m a l c xs ps) (hb : IsBook M' fp' k a l c ws nx) (hbut : Mem.But (· ∈ fp) M M') (hf : FreshOf M fp fp') :
    M0.Upto M' ∧ IsRef M' fq m l ps ∧ InOk M' a l c xs ∧ Apart fp' fq ∧ Apart (fpOf a) fp' ∧ (∀ o ∈ fp', M0.n ≤ o) := by
  have hn := h.up.1
  have k1 := hbut.keeps h.ap h.rf.lt
  have k2 := hbut.keeps h.ap1.symm h.inn.lt
  refine ⟨⟨by have := hbut.1; omega, fun o ho => ?_⟩, h.rf.frame hbut.1 k1, h.inn.same k2, h.ap.keep hf h.rf.lt, (h.ap1.symm.keep hf h.inn.lt).symm, fun o ho => ?_⟩
  · rw [hbut.2 o (by omega) (fun hp => by have := h.new.1 o hp; omega), h.up.2 o ho]
  · rcases hf o ho with h1 | h1
    · exact h.new.1 o h1
    · omega
theorem Books.two {fp' fq' : List Nat} {ws : List Win} {nx : Int} {ps' : List RP} (h1 : M0.Upto M) (hb : IsBook M fp' k a l c ws nx) (hin : InOk M a l c xs) (ha : Apart fp' fq) (ha1 : Apart (fpOf a) fp') (ha2 : Apart (fpOf a) fq) (hq : ∀ o ∈ fq, o < M.n)
    (hnew : (∀ o ∈ fp', M0.n ≤ o) ∧ (∀ o ∈ fq, M0.n ≤ o) ∧ (∀ o ∈ fpOf a, M0.n ≤ o)) (hr : IsRef M' fq' m l ps') (hbut : Mem.But (· ∈ fq) M M') (hf : FreshOf M fq fq') (hws : ws = outW 0 ps') (hnx : nx = (ps'.length : Int)) :
    Books M0 M' fp' fq' k m a l c xs ps' := by
  have hn := h1.1
  have k1 := hbut.keeps ha.symm hb.lt
  have k2 := hbut.keeps ha2.symm hin.lt
  subst hws hnx
  refine ⟨⟨by have := hbut.1; omega, fun o ho => ?_⟩, hb.frame hbut.1 k1, hr, hin.same k2, (ha.symm.keep hf hb.lt).symm, ha1, (ha2.symm.keep hf hin.lt).symm, hnew.1, fun o ho => ?_, hnew.2.2⟩
  · rw [hbut.2 o (by omega) (fun hp => by have := hnew.2.1 o hp; omega), h1.2 o ho]
  · rcases hf o ho with h | h
    · exact hnew.2.1 o h
    · omega
end
theorem books_loop {M0 : Mem} {a0 : Option (Nat × Nat)} {l : Nat} {c0 : Cap} {a1 : Option (Nat × Nat)} {l1 : Nat} {cq : Cap} {ia : Option (Nat × Nat)} {ic : Cap} {k m : Nat} {xs : List Int}
    (hx : M0.ints .u8 a0 l c0 = some xs) (hb : ∀ x ∈ xs, 0 ≤ x ∧ x < 256) (hl : l < 2 ^ 47) (hv : ArgRows M0 [.bool, .int .i64, .int .i64, .int .i64] a1 l1 cq) :
    ∀ (d i : Nat) (M : Mem) (fp fq : List Nat) (ps : List RP), i + d = 200 → ps.length ≤ i → Books M0 M fp fq k m ia l ic xs ps →
      ∃ M', p5_1 C prog.meth a0 l c0 a1 l1 cq ia l ic (some (k, 0)) (some (m, 0)) i M = some (.bool true, M') ∧ M0.Upto M' := by
  obtain ⟨Ma, hawake⟩ := awake02_C
  have fin : ∀ (M : Mem) (fp fq : List Nat) (ps : List RP), Books M0 M fp fq k m ia l ic xs ps → (Option.bind (C 16 [.sl ia l ic, .sl a0 l c0] M) fun r207 => (Option.bind (r207.1.bool?) fun x208 =>
      (cond x208 (Option.bind (C 14 [] Mem.empty) fun r209 => (Option.bind (r209.1.bool?) fun x210 => (some (AVal.bool x210, r207.2)))) (some (.bool false, r207.2))))) = some (.bool true, M) := by
    intro M fp fq ps h
    have e := EqBytes_C h.inn.ints (ints_upto hx h.up) (by omega)
    simp only [e, hawake, decide_true, Option.bind_some, AVal.bool?, cond_true]
  intro d
  induction d with
  | zero =>
    intro i M fp fq ps hi hps h
    have hE := p5_1_eq C prog.meth a0 l c0 a1 l1 cq ia l ic (some (k, 0)) (some (m, 0)) i M
    have h200 : ¬ ((i : Int) < 200) := by omega
    rw [fin M fp fq ps h] at hE
    simp only [h200, decide_false, cond_false] at hE
    exact ⟨M, by rw [hE]; cases decide ((i : Int) < (l1 : Int)) <;> rfl, h.up⟩
  | succ d ih =>
    intro i M fp fq ps hi hps h
    have hE := p5_1_eq C prog.meth a0 l c0 a1 l1 cq ia l ic (some (k, 0)) (some (m, 0)) i M
    have h200 : ((i : Int) < 200) := by omega
    rw [fin M fp fq ps h] at hE
    by_cases hl1 : (i : Int) < (l1 : Int)
    rotate_left
    · simp only [hl1, decide_false, cond_false] at hE
      exact ⟨M, hE, h.up⟩
    simp only [h200, hl1, decide_true, cond_true] at hE
    rw [hE]
    clear hE
    -- the third part: what is told of those that are out
    have tail : ∀ (M : Mem) (fp fq : List Nat) (ps : List RP), ps.length ≤ i + 1 → Books M0 M fp fq k m ia l ic xs ps → ∃ M', p5_3 C prog.meth a0 l c0 a1 l1 cq ia l ic (some (k, 0)) (some (m, 0)) i M = some (.bool true, M') ∧ M0.Upto M' := by
      intro M fp fq ps hps h
      have hwl := outW_len ps 0
      obtain ⟨M1, xa, xl, xc, c1, u1, r1, f1, own1⟩ := BookOut_C h.bk (by omega)
      have h1 := h.upto u1
      obtain ⟨M2, ya, yl, yc, c2, u2, r2, f2, own2⟩ := BookOut_C h1.bk (by omega)
      have h2 := h1.upto u2
      obtain ⟨M3, za, zl, zc, c3, u3, r3, f3⟩ := ROut_C h2.rf (by omega)
      have h3 := h2.upto u3
      rw [outW_R] at r1 r2
      have r1' := r1.upto encR2 (by omega) (u2.trans u3)
      have r2' := r2.upto encR2 (by omega) u3
      have hxl := r1.length
      have hyl := r2.length
      have hol : (outR ps).length ≤ ps.length := by unfold outR; rw [List.length_map]; exact List.length_filter_le _ _
      have e3 := Same_C r1'.sl r3.sl (by omega)
      have hE := p5_3_eq C prog.meth a0 l c0 a1 l1 cq ia l ic (some (k, 0)) (some (m, 0)) i M
      simp only [c1, c2, c3, e3, decide_true, Option.bind_some, AVal.sl?, AVal.bool?, Bool.not_true, cond_false] at hE
      have hi1 : IntKind.wrap .i64 ((i : Int) + 1) = ((i + 1 : Nat) : Int) := by rw [wrap_i64 (by omega) (by omega)]; rfl
      have n1 := u1.1
      have n2 := u2.1
      have n3 := u3.1
      -- behind the spoiling
      have rest : ∀ (M4 : Mem), M4.n = M3.n → Mem.But (· ∈ fpOf xa) M3 M4 → ∃ M', p5_5 C prog.meth a0 l c0 a1 l1 cq ia l ic (some (k, 0)) (some (m, 0)) i xa xl xc ya yl yc xl M4 = some (.bool true, M') ∧ M0.Upto M' := by
        intro M4 hn4 hbut4
        have hlow : ∀ o, o < M.n → M4.get o = M3.get o := fun o ho => hbut4.2 o (by omega) (fun hx => by have := (f1 o hx).1; omega)
        have h4 : Books M0 M4 fp fq k m ia l ic xs ps :=
          ⟨⟨by have := h3.up.1; omega, fun o ho => by rw [hlow o (by have := h.up.1; omega), h3.up.2 o ho]⟩, h3.bk.frame (by omega) (fun o ho => hlow o (h.bk.lt o ho)), h3.rf.frame (by omega) (fun o ho => hlow o (h.rf.lt o ho)), h3.inn.same (fun o ho => hlow o (h.inn.lt o ho)), h3.ap, h3.ap1, h3.ap2, h3.new⟩
        have r4 : Row M4 2 encR ya yl yc (outR ps) := r2'.same (fun o ho => hbut4.2 o (by have := (f2 o ho).2; omega) (fun hx => by have := (f1 o hx).2; have := (f2 o ho).1; omega))
        obtain ⟨M5, wa, wl, wc, c5, u5, r5, f5⟩ := ROut_C h4.rf (by omega)
        have e5 := Same_C (r4.upto encR2 (by omega) u5).sl r5.sl (by omega)
        have hE := p5_5_eq C prog.meth a0 l c0 a1 l1 cq ia l ic (some (k, 0)) (some (m, 0)) i xa xl xc ya yl yc xl M4
        have hnl : ¬ ((xl : Int) < (xl : Int)) := by omega
        simp only [hnl, decide_false, cond_false, c5, e5, decide_true, Option.bind_some, AVal.sl?, AVal.bool?, Bool.not_true, hi1] at hE
        obtain ⟨M', q, qu⟩ := ih (i + 1) M5 fp fq ps (by omega) hps (h4.upto u5)
        exact ⟨M', hE.trans q, qu⟩
      rcases own1 with rfl | ⟨o, cs, rfl, rfl, g1, g2⟩
      · have hx0 : xl = 0 := by
          by_cases h0 : xl = 0
          · exact h0
          · obtain ⟨p, hp, _⟩ := r1.sl.get encR2 (by omega) (i := 0) (by omega)
            have := (slPtr_some hp).1
            cases this
        subst hx0
        obtain ⟨M', q, qu⟩ := rest M3 rfl (Mem.But.refl _ _)
        exact ⟨M', hE.trans q, qu⟩
      · obtain ⟨M4, s1, s2, s3⟩ := spoil_loop (b1 := a0) (b2 := l) (b3 := c0) (l1 := a1) (l2 := l1) (l3 := cq) (i1 := ia) (i2 := l) (i3 := ic) (k := some (k, 0)) (m := some (m, 0)) (i0 := i) (y1 := ya) (y2 := yl) (y3 := yc) (by omega) xl 0 M3 cs (by omega) ((u2.trans u3).get g1) g2
        obtain ⟨M', q, qu⟩ := rest M4 s2 (s3.mono (fun q hq => by subst hq; simp [fpOf]))
        exact ⟨M', (hE.trans s1).trans q, qu⟩
    have hE := p5_2_eq C prog.meth a0 l c0 a1 l1 cq ia l ic (some (k, 0)) (some (m, 0)) i M
    have h0 : (0 : Int) ≤ (i : Int) := by omega
    have h2 : Nat.blt i l1 = true := Mem.blt_iff.2 (by omega)
    obtain ⟨p, vs, hp, hpn, hs, hld⟩ := hv i (by omega)
    simp only [ShowsR, Shows] at hs
    obtain ⟨v0, w0, rfl, ⟨bk, rfl⟩, v1, w1, rfl, ⟨id, rfl, wid⟩, v2, w2, rfl, ⟨at_, rfl, wat⟩, v3, w3, rfl, ⟨n, rfl, wn⟩, rfl⟩ := hs
    have hbat := i64_bounds wat
    have hbn := i64_bounds wn
    have ldb : ∀ M', M0.Upto M' → M'.ldB p.1 (p.2 + i * 4) = some bk := fun M' hu => by
      have := hld M' hu 0 (by simp)
      simp only [List.length_cons, List.length_nil, Nat.zero_add, Nat.reduceAdd, Nat.add_zero, List.getElem?_cons_zero] at this
      unfold Mem.ldB; rw [this]; rfl
    have ld1 : ∀ M', M0.Upto M' → M'.ld p.1 (p.2 + (i * 4 + 1)) = some (.int .i64 id) := fun M' hu => by simpa using hld M' hu 1 (by simp)
    have ld2 : ∀ M', M0.Upto M' → M'.ld p.1 (p.2 + (i * 4 + 2)) = some (.int .i64 at_) := fun M' hu => by simpa using hld M' hu 2 (by simp)
    have ld3 : ∀ M', M0.Upto M' → M'.ld p.1 (p.2 + (i * 4 + 3)) = some (.int .i64 n) := fun M' hu => by simpa using hld M' hu 3 (by simp)
    have hwl := outW_len ps 0
    simp only [h0, decide_true, cond_true, Int.toNat_natCast, h2, hp, Option.bind_some, Nat.add_zero, ldb M h.up] at hE
    cases bk with
    | true =>
      have e1 := ldI_ld.2 (ld1 M h.up)
      have hst := still1 (ld1 M h.up)
      simp only [cond_true, Nat.add_assoc, e1, Option.bind_some] at hE
      rcases BookBack_C (id := id) h.bk (by omega) with ⟨q1, M1, c1, u1⟩ | ⟨j, hj, q1, M1, fp1, c1, b1, but1, fr1⟩
      · have h1 := h.upto u1
        have e2 := ldI_ld.2 (ld1 M1 h1.up)
        rcases RBack_C (id := id) h1.rf (by omega) with ⟨s1, M2, c2, u2⟩ | ⟨t, ht, rfl, s1, M2, c2, r2, but2⟩
        · have h3 := h1.upto u2
          simp only [c1, Option.bind_some, int?_int, e2, c2, hst, cond_true, bne_self_eq_false, cond_false] at hE
          obtain ⟨M', q, qu⟩ := tail M2 fp fq ps (by omega) h3
          exact ⟨M', hE.trans q, qu⟩
        · exfalso
          obtain ⟨w, hw, hw1⟩ := outW_mem ps 0 t ht s1
          exact q1 w hw (by rw [hw1]; simp)
      · obtain ⟨up1, rf1, in1, ap1, ap11, new1⟩ := h.one b1 but1 fr1
        obtain ⟨t, ht, hid, hps2⟩ := outW_id ps 0 _ (List.getElem_mem hj)
        rw [Nat.zero_add, q1] at hid
        have e2 := ldI_ld.2 (ld1 M1 up1)
        rcases RBack_C (id := id) rf1 (by omega) with ⟨s1, M2, c2, u2⟩ | ⟨t', ht', hid', s1, M2, c2, r2, but2⟩
        · exfalso
          rw [s1 t ht hid] at hps2
          cases hps2
        · have htt : t' = t := by omega
          subst htt
          have hback := outW_back ps 0 j hj t' ht (by rw [q1, hid]; simp)
          have h3 : Books M0 M2 fp1 fq k m ia l ic xs (ps.set t' (ps[t'].1, false)) := Books.two up1 b1 in1 ap1 ap11 h.ap2 rf1.lt ⟨new1, h.new.2.1, h.new.2.2⟩ r2 but2 (FreshOf.refl _ _) hback (by simp)
          simp only [c1, Option.bind_some, int?_int, e2, c2, hst, cond_true, bne_self_eq_false, cond_false] at hE
          obtain ⟨M', q, qu⟩ := tail M2 fp1 fq _ (by simp; omega) h3
          exact ⟨M', hE.trans q, qu⟩
    | false =>
      rw [cond_false] at hE
      have hE4 := p5_4_eq C prog.meth a0 l c0 a1 l1 cq ia l ic (some (k, 0)) (some (m, 0)) i M
      have e1 := ldI_ld.2 (ld2 M h.up)
      have e2 := ldI_ld.2 (ld3 M h.up)
      simp only [h0, decide_true, cond_true, Int.toNat_natCast, h2, hp, Option.bind_some, Nat.add_assoc, Nat.reduceAdd, e1, e2] at hE4
      rw [hE, hE4]
      clear hE hE4
      obtain ⟨M1, n1, ⟨w1, c1, u1⟩ | ⟨w1, m1, c1, u1⟩ | ⟨w1, m1, c1, fp1, b1, but1, fr1⟩⟩ := BookLend_C (at_ := at_) (n := n) h.bk h.inn.room (by omega) (by omega) (by omega) (by omega)
      · have h1 := h.upto u1
        have f1 := ldI_ld.2 (ld2 M1 h1.up)
        have f2 := ldI_ld.2 (ld3 M1 h1.up)
        obtain ⟨M2, n2, ⟨w2, c2, u2⟩ | ⟨w2, _⟩ | ⟨w2, _⟩⟩ := RLend_C (at_ := at_) (n := n) h1.rf (by omega)
        · have h3 := h1.upto u2
          simp only [Option.bind_some, List.getElem?_cons_zero, List.getElem?_cons_succ, int?_int, AVal.bool?, AVal.ptr?, AVal.sl?, AVal.tup?, AVal.agg?, AVal.ifc?, AVal.fn?, AVal.str?, List.head?_cons, List.tail_cons, List.isEmpty_nil, cond_true, cond_false, Option.isNone_some, Option.isNone_none, Bool.not_true, Bool.not_false, decide_true, decide_false, beq_self_eq_true, bne_self_eq_false, Int.reduceBEq, Int.reduceBNe, Int.cast_ofNat_Int, c1, f1, f2, c2]
          exact tail M2 fp fq ps (by omega) h3
        · rw [w1] at w2; cases w2
        · rw [w1] at w2; cases w2
      · have h1 := h.upto u1
        have f1 := ldI_ld.2 (ld2 M1 h1.up)
        have f2 := ldI_ld.2 (ld3 M1 h1.up)
        rw [outW_any] at m1
        obtain ⟨M2, n2, ⟨w2, _⟩ | ⟨w2, m2, c2, u2⟩ | ⟨w2, m2, _⟩⟩ := RLend_C (at_ := at_) (n := n) h1.rf (by omega)
        · rw [w1] at w2; cases w2
        · have h3 := h1.upto u2
          simp only [Option.bind_some, List.getElem?_cons_zero, List.getElem?_cons_succ, int?_int, AVal.bool?, AVal.ptr?, AVal.sl?, AVal.tup?, AVal.agg?, AVal.ifc?, AVal.fn?, AVal.str?, List.head?_cons, List.tail_cons, List.isEmpty_nil, cond_true, cond_false, Option.isNone_some, Option.isNone_none, Bool.not_true, Bool.not_false, decide_true, decide_false, beq_self_eq_true, bne_self_eq_false, Int.reduceBEq, Int.reduceBNe, Int.cast_ofNat_Int, c1, f1, f2, c2]
          exact tail M2 fp fq ps (by omega) h3
        · rw [m1] at m2; cases m2
      · obtain ⟨up1, rf1, in1, ap1, ap11, new1⟩ := h.one b1 but1 fr1
        have f1 := ldI_ld.2 (ld2 M1 up1)
        have f2 := ldI_ld.2 (ld3 M1 up1)
        rw [outW_any] at m1
        obtain ⟨M2, n2, ⟨w2, _⟩ | ⟨w2, m2, _⟩ | ⟨w2, m2, c2, fq2, b2, but2, fr2⟩⟩ := RLend_C (at_ := at_) (n := n) rf1 (by omega)
        · rw [w1] at w2; cases w2
        · rw [m1] at m2; cases m2
        · have hnx : IntKind.wrap .i64 ((ps.length : Int) + 1) = ((ps ++ [((at_, n), true)]).length : Int) := by rw [wrap_i64 (by omega) (by omega)]; simp
          have h3 : Books M0 M2 fp1 fq2 k m ia l ic xs (ps ++ [((at_, n), true)]) := Books.two up1 b1 in1 ap1 ap11 h.ap2 rf1.lt ⟨new1, h.new.2.1, h.new.2.2⟩ b2 but2 fr2 (by rw [outW_app]; simp) hnx
          obtain ⟨g1, g2, g3⟩ := (within_iff (by omega)).1 w1
          obtain ⟨x, rfl⟩ := Int.eq_ofNat_of_zero_le g1
          obtain ⟨y, rfl⟩ := Int.eq_ofNat_of_zero_le g2
          simp only [Int.toNat_natCast] at c1
          obtain ⟨M3, c3, u3⟩ := over_In (n := y) (at_ := x) h3.inn hb (by omega) hl
          have h4 := h3.upto u3
          have k1 := ldI_ld.2 (ld2 M2 h3.up)
          have k2 := ldI_ld.2 (ld3 M2 h3.up)
          simp only [Option.bind_some, List.getElem?_cons_zero, List.getElem?_cons_succ, int?_int, AVal.bool?, AVal.ptr?, AVal.sl?, AVal.tup?, AVal.agg?, AVal.ifc?, AVal.fn?, AVal.str?, List.head?_cons, List.tail_cons, List.isEmpty_nil, cond_true, cond_false, Option.isNone_some, Option.isNone_none, Bool.not_true, Bool.not_false, decide_true, decide_false, beq_self_eq_true, bne_self_eq_false, Int.reduceBEq, Int.reduceBNe, Int.cast_ofNat_Int, c1, f1, f2, c2, k1, k2, c3]
          exact tail M3 fp1 fq2 _ (by simp; omega) h4
theorem LeaseBooks_C {M0 : Mem} {a0 : Option (Nat × Nat)} {l : Nat} {c0 : Cap} {a1 : Option (Nat × Nat)} {l1 : Nat} {c1 : Cap} {xs : List Int}
    (hx : M0.ints .u8 a0 l c0 = some xs) (hb : ∀ x ∈ xs, 0 ≤ x ∧ x < 256) (hl : l < 2 ^ 47) (hv : ArgRows M0 [.bool, .int .i64, .int .i64, .int .i64] a1 l1 c1) :
    ∃ M', C 5 [.sl a0 l c0, .sl a1 l1 c1] M0 = some (.bool true, M') ∧ M0.Upto M' := by
  obtain ⟨M1, ia, ic, c1', u1, in1, f1⟩ := CopyBytes_In hx (by omega)
  obtain ⟨M2, c2, u2, b2⟩ := New_C (ba := ia) (bl := l) (bc := ic) (M := M1)
  obtain ⟨M3, c3, u3, b3⟩ := RNew_C (ba := a0) (bl := l) (bc := c0) (M := M2)
  have hE := p5_0_eq C prog.meth a0 l c0 a1 l1 c1 M0
  simp only [c1', Mem.ldI, Mem.ldB, Mem.ldS, Mem.ldP, Mem.ldL, Mem.ldM, Mem.ldF, Mem.ldN, Mem.ld, Mem.cells, AObj.live, Option.bind_some, List.getElem?_cons_zero, List.getElem?_cons_succ, int?_int, AVal.bool?, AVal.ptr?, AVal.sl?, AVal.tup?, AVal.agg?, AVal.ifc?, AVal.fn?, AVal.str?, List.head?_cons, List.tail_cons, List.isEmpty_nil, cond_true, cond_false, Option.isNone_some, Option.isNone_none, Nat.zero_add, Bool.not_true, Bool.not_false, decide_true, decide_false, get_alloc_self, get_alloc_lt, get_put_self, get_put_ne, beq_self_eq_true, bne_self_eq_false, slPtr, c2, c3] at hE
  have n1 := u1.1
  have n2 := u2.1
  have hk := b2.lt M1.n (by simp)
  have h : Books M0 M3 [M1.n] [M2.n] M1.n M2.n ia l ic xs [] := by
    refine ⟨(u1.trans u2).trans u3, b2.upto u3, b3, (in1.same (fun o ho => u2.2 o (in1.lt o ho))).same (fun o ho => u3.2 o (by have := in1.lt o ho; omega)), ?_, ?_, ?_, ?_, ?_, ?_⟩
    · intro o ho; simp at ho ⊢; omega
    · intro o ho; have := in1.lt o ho; simp; omega
    · intro o ho; have := in1.lt o ho; simp; omega
    · intro o ho; simp at ho; omega
    · intro o ho; simp at ho; omega
    · exact f1
  obtain ⟨M', q, qu⟩ := books_loop hx hb hl hv 200 0 M3 _ _ [] (by omega) (by simp) h
  exact ⟨M', c5 (hE.trans q), qu⟩
theorem LeaseBooks_law : ∀ avs M, M.Whole → okL M.n avs → ShowsArgs M [(false, [.sl 1 [.int .u8]]), (false, [.sl 32 [.bool, .int .i64, .int .i64, .int .i64]])] avs → ∃ M', C 5 avs M = some (.bool true, M') := by
  intro avs M hM hok h
  simp only [ShowsArgs, ShowsArg] at h
  obtain ⟨v, _, rfl, ⟨t, ht, hv⟩, w, _, rfl, ⟨t', ht', hw⟩, rfl⟩ := h
  obtain rfl : t = .sl 1 [.int .u8] := by simpa using ht.symm
  obtain rfl : t' = .sl 32 [.bool, .int .i64, .int .i64, .int .i64] := by simpa using ht'.symm
  obtain ⟨a, l, c, xs, rfl, hx, hl, hwf⟩ := hv.ints
  obtain ⟨a1, l1, c1, rfl, hl1⟩ := hw.form
  obtain ⟨M', h, _⟩ := LeaseBooks_C hx (fun x hx => u8_bounds (hwf x hx)) (by simp [reachBytes] at hl; omega) (fun i hi => hw.row hi)
  exact ⟨M', h⟩
end Go.Proofs.Ytndolnehppadnaa.M
