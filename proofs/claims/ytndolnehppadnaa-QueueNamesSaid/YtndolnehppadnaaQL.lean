/- QueuePlays. -/
import Derived.Test.YtndolnehppadnaaQ
set_option linter.unusedVariables false
set_option linter.unusedSimpArgs false
set_option linter.unnecessarySimpa false
namespace Go.Proofs.Ytndolnehppadnaa.M
open Go.Abs

/-! The document's queue. -/
structure IsRQ (M : Mem) (fr : List Nat) (m : Nat) (most : Int) (ws : List SlV) : Prop where
  ex : ∃ a l c, M.get m = some ⟨[.sl a l c, .int .i64 most], .fixed⟩ ∧ Tail M 1 encS a l c ws ∧ fr = m :: fpOf a ∧ ∀ o ∈ fpOf a, o < M.n ∧ o ≠ m
section
variable {M M' : Mem} {fr : List Nat} {m : Nat} {most : Int} {ws : List SlV}
theorem IsRQ.lt (h : IsRQ M fr m most ws) : ∀ o ∈ fr, o < M.n := by
  obtain ⟨a, l, c, h1, h2, rfl, h4⟩ := h.ex
  intro o ho
  rcases List.mem_cons.1 ho with rfl | ho
  · exact Mem.get_lt h1
  · exact (h4 o ho).1
theorem IsRQ.same (h : IsRQ M fr m most ws) (hn : M.n ≤ M'.n) (hg : ∀ o ∈ fr, M'.get o = M.get o) : IsRQ M' fr m most ws := by
  obtain ⟨a, l, c, h1, h2, rfl, h4⟩ := h.ex
  exact ⟨a, l, c, (hg m (by simp)).trans h1, h2.same (fun o ho => hg o (by simp [ho])), rfl, fun o ho => ⟨by have := (h4 o ho).1; omega, (h4 o ho).2⟩⟩
theorem RLen_C (h : IsRQ M fr m most ws) : C 36 [.ptr (some (m, 0))] M = some (.int .i64 (ws.length : Int), M) := by
  obtain ⟨a, l, c, h1, h2, rfl, h4⟩ := h.ex
  have hE := p36_0_eq C prog.meth (some (m, 0)) M
  have e1 : M.ldL m (0 + 0) = some (a, l, c) := by unfold Mem.ldL; rw [ld_fix h1]; rfl
  simp only [Option.bind_some, List.getElem?_cons_zero, List.getElem?_cons_succ, int?_int, AVal.bool?, AVal.ptr?, AVal.sl?, AVal.tup?, AVal.agg?, AVal.ifc?, AVal.fn?, AVal.str?, List.head?_cons, List.tail_cons, List.isEmpty_nil, cond_true, cond_false, Option.isNone_some, Option.isNone_none, Bool.not_true, Bool.not_false, decide_true, decide_false, beq_self_eq_true, bne_self_eq_false, Int.reduceBEq, Int.reduceBNe, Int.cast_ofNat_Int, e1] at hE
  rw [h2.length]
  exact c36 hE
theorem RTake0_C (h : IsRQ M fr m most []) : C 31 [.ptr (some (m, 0))] M = some (.tup [.sl none 0 (.known 0), .int .i64 2], M) := by
  obtain ⟨a, l, c, h1, h2, rfl, h4⟩ := h.ex
  have hE := p31_0_eq C prog.meth (some (m, 0)) M
  have e1 : M.ldL m (0 + 0) = some (a, l, c) := by unfold Mem.ldL; rw [ld_fix h1]; rfl
  have h0 : ((l : Int) == 0) = true := by have := h2.length; simp at this; simp; omega
  simp only [Option.bind_some, List.getElem?_cons_zero, List.getElem?_cons_succ, int?_int, AVal.bool?, AVal.ptr?, AVal.sl?, AVal.tup?, AVal.agg?, AVal.ifc?, AVal.fn?, AVal.str?, List.head?_cons, List.tail_cons, List.isEmpty_nil, cond_true, cond_false, Option.isNone_some, Option.isNone_none, Bool.not_true, Bool.not_false, decide_true, decide_false, beq_self_eq_true, bne_self_eq_false, Int.reduceBEq, Int.reduceBNe, Int.cast_ofNat_Int, e1, h0] at hE
  exact c31 hE
theorem RTake_C {w : SlV} (h : IsRQ M fr m most (w :: ws)) : ∃ M' fr', C 31 [.ptr (some (m, 0))] M = some (.tup [.sl w.1 w.2.1 w.2.2, .int .i64 0], M') ∧ IsRQ M' fr' m most ws ∧ M'.n = M.n ∧ Mem.But (· = m) M M' ∧ (∀ o ∈ fr', o ∈ fr) := by
  obtain ⟨a, l, c, h1, h2, rfl, h4⟩ := h.ex
  have hE := p31_0_eq C prog.meth (some (m, 0)) M
  have hlen := h2.length
  rw [List.length_cons] at hlen
  have e1 : M.ldL m (0 + 0) = some (a, l, c) := by unfold Mem.ldL; rw [ld_fix h1]; rfl
  have h0 : ((l : Int) == 0) = false := by simp; omega
  have h3 : Nat.blt 0 l = true := Mem.blt_iff.2 (by omega)
  obtain ⟨p, hp, hget⟩ := h2.sl.get encS1 (by omega) (i := 0) (by omega)
  have g0 := hget 0 (by omega)
  simp only [encS, List.getElem_cons_zero, List.getElem?_cons_zero] at g0
  have e2 : M.ldL p.1 (p.2 + 0 * 1) = some w := by unfold Mem.ldL; simp only [Nat.zero_mul, Nat.add_zero] at g0 ⊢; rw [g0]; rfl
  obtain ⟨a2, c2, k1, k2, k3⟩ := h2.rest (kl := .i64) encS1 (by omega)
  have hml := Mem.get_lt h1
  have hst := st_fix (i := 0) (vs := [.sl a2 (l - 1) c2]) h1 (by simp)
  have hov : overL [.sl a l c, .int .i64 most] 0 [.sl a2 (l - 1) c2] = [.sl a2 (l - 1) c2, .int .i64 most] := rfl
  rw [hov] at hst
  have e3 : ((1 : Nat) : Int) = 1 := rfl
  rw [e3] at k1
  simp only [Option.bind_some, List.getElem?_cons_zero, List.getElem?_cons_succ, int?_int, AVal.bool?, AVal.ptr?, AVal.sl?, AVal.tup?, AVal.agg?, AVal.ifc?, AVal.fn?, AVal.str?, List.head?_cons, List.tail_cons, List.isEmpty_nil, cond_true, cond_false, Option.isNone_some, Option.isNone_none, Bool.not_true, Bool.not_false, decide_true, decide_false, beq_self_eq_true, bne_self_eq_false, Int.reduceBEq, Int.reduceBNe, Int.cast_ofNat_Int, e1, h0, h3, hp, e2, k1, Nat.add_zero, hst] at hE
  exact ⟨_, m :: fpOf a2, c31 hE, ⟨_, _, _, get_put_self hml, k2.same (fun o ho => get_put_ne (h4 o (k3 o ho)).2), rfl, fun o ho => h4 o (k3 o ho)⟩, rfl, Mem.But.put _ _ _, fun o ho => by
    rcases List.mem_cons.1 ho with rfl | ho
    · simp
    · simp [k3 o ho]⟩
theorem RPut_C {a : Option (Nat × Nat)} {l : Nat} {c : Cap} {xs : List Int} (h : IsRQ M fr m most ws) (hx : M.ints .u8 a l c = some xs) (hws : ws.length < 2 ^ 40) :
    (l > 2048 ∧ C 33 [.ptr (some (m, 0)), .sl a l c] M = some (.int .i64 5, M)) ∨
    (l ≤ 2048 ∧ (ws.length : Int) ≥ most ∧ C 33 [.ptr (some (m, 0)), .sl a l c] M = some (.int .i64 260, M)) ∨
    (l ≤ 2048 ∧ (ws.length : Int) < most ∧ ∃ M' w fr', C 33 [.ptr (some (m, 0)), .sl a l c] M = some (.int .i64 0, M') ∧ IsRQ M' fr' m most (ws ++ [w]) ∧ M.n ≤ M'.n ∧ Mem.But (· ∈ fr) M M' ∧ FreshOf M fr fr' ∧ Own1 M' w xs ∧ (∀ o ∈ fpS w, M.n ≤ o ∧ o ∉ fr')) := by
  obtain ⟨qa, ql, qc, h1, h2, rfl, h4⟩ := h.ex
  have hlen := h2.length
  have hE := p33_0_eq C prog.meth (some (m, 0)) a l c M
  by_cases hl : l > 2048
  · have : ((l : Int) > 2048) := by omega
    simp only [Option.bind_some, List.getElem?_cons_zero, List.getElem?_cons_succ, int?_int, AVal.bool?, AVal.ptr?, AVal.sl?, AVal.tup?, AVal.agg?, AVal.ifc?, AVal.fn?, AVal.str?, List.head?_cons, List.tail_cons, List.isEmpty_nil, cond_true, cond_false, Option.isNone_some, Option.isNone_none, Bool.not_true, Bool.not_false, decide_true, decide_false, beq_self_eq_true, bne_self_eq_false, Int.reduceBEq, Int.reduceBNe, Int.cast_ofNat_Int, this] at hE
    exact .inl ⟨hl, c33 hE⟩
  have hl' : ¬ ((l : Int) > 2048) := by omega
  have e1 : M.ldL m (0 + 0) = some (qa, ql, qc) := by unfold Mem.ldL; rw [ld_fix h1]; rfl
  have e2 : M.ldI .i64 m (0 + 1) = some most := ldI_ld.2 (by rw [ld_fix h1]; rfl)
  by_cases hfull : (ql : Int) ≥ most
  · simp only [Option.bind_some, List.getElem?_cons_zero, List.getElem?_cons_succ, int?_int, AVal.bool?, AVal.ptr?, AVal.sl?, AVal.tup?, AVal.agg?, AVal.ifc?, AVal.fn?, AVal.str?, List.head?_cons, List.tail_cons, List.isEmpty_nil, cond_true, cond_false, Option.isNone_some, Option.isNone_none, Bool.not_true, Bool.not_false, decide_true, decide_false, beq_self_eq_true, bne_self_eq_false, Int.reduceBEq, Int.reduceBNe, Int.cast_ofNat_Int, hl', e1, e2, hfull] at hE
    exact .inr (.inl ⟨by omega, by omega, c33 hE⟩)
  have hml := Mem.get_lt h1
  obtain ⟨M1, v, c1, u1, o1, f1⟩ := CopyBytes_O hx (by omega)
  have n1 := u1.1
  have t1 := h2.same (M' := M1) (fun o ho => u1.2 o (h4 o ho).1)
  obtain ⟨M3, happ, t3, n3, b3, g3⟩ := t1.push (bytes := 24) (y := v) (cs := [.sl v.1 v.2.1 v.2.2]) encS1 (by omega) rfl (by omega) (fun o ho => by have := (h4 o ho).1; omega)
  have hk3 : M3.get m = some ⟨[.sl qa ql qc, .int .i64 most], .fixed⟩ := b3.get (u1.get h1) (fun hx => (h4 m hx).2 rfl)
  have hst := st_fix (i := 0) (vs := [.sl (some (M1.n + 1, 0)) (ql + 1) (.unk 0)]) hk3 (by simp)
  have hov : overL [.sl qa ql qc, .int .i64 most] 0 [.sl (some (M1.n + 1, 0)) (ql + 1) (.unk 0)] = [.sl (some (M1.n + 1, 0)) (ql + 1) (.unk 0), .int .i64 most] := rfl
  rw [hov] at hst
  have s1 : M1.still m (0 + 0) [.sl qa ql qc] = true := still1 (by rw [ld_fix (u1.get h1)]; rfl)
  have s2 : (M1.alloc ⟨[.sl v.1 v.2.1 v.2.2], .fixed⟩).still m (0 + 0) [.sl qa ql qc] = true := still1 (by rw [ld_fix (get_alloc_of (u1.get h1))]; rfl)
  simp only [Option.bind_some, List.getElem?_cons_zero, List.getElem?_cons_succ, int?_int, AVal.bool?, AVal.ptr?, AVal.sl?, AVal.tup?, AVal.agg?, AVal.ifc?, AVal.fn?, AVal.str?, List.head?_cons, List.tail_cons, List.isEmpty_nil, cond_true, cond_false, Option.isNone_some, Option.isNone_none, Bool.not_true, Bool.not_false, decide_true, decide_false, beq_self_eq_true, bne_self_eq_false, Int.reduceBEq, Int.reduceBNe, Int.cast_ofNat_Int, hl', e1, e2, hfull, c1, happ, Nat.add_zero, hst, s1, s2] at hE
  have hml3 : m < M3.n := by omega
  refine .inr (.inr ⟨by omega, by omega, _, v, m :: [M1.n + 1], c33 hE, ⟨_, _, _, get_put_self hml3, t3.same (fun o ho => ?_), rfl, fun o ho => ?_⟩, by rw [Mem.n_put]; omega, ⟨by rw [Mem.n_put]; omega, fun q hq hne => ?_⟩, fun o ho => ?_, o1.same (fun o ho => ?_), fun o ho => ⟨f1 o ho, ?_⟩⟩)
  · simp only [fpOf, List.mem_singleton] at ho
    exact get_put_ne (by omega)
  · simp only [fpOf, List.mem_singleton] at ho
    simp only [Mem.n_put]; omega
  · simp only [List.mem_cons, not_or] at hne
    rw [get_put_ne hne.1, b3.2 q (by omega) hne.2, u1.2 q hq]
  · simp only [List.mem_cons, List.not_mem_nil, or_false] at ho ⊢
    omega
  · have q1 := f1 o ho
    have q2 := o1.lt o ho
    rw [get_put_ne (by omega), b3.2 o q2 (fun hx => by have := (h4 o hx).1; omega)]
  · have q1 := f1 o ho
    have q2 := o1.lt o ho
    simp only [List.mem_cons, List.not_mem_nil, or_false]
    omega
theorem rall_loop {M0 : Mem} {pk : List (List Int)} (h : IsRQ M0 fr m most ws) (hp : Pks M0 ws pk) (hsz : ∀ v ∈ ws, v.2.1 ≤ 2048) (hws : ws.length < 2 ^ 40) :
    ∀ (d i : Nat) (M : Mem) (a : Option (Nat × Nat)) (l : Nat) (c : Cap) (vs : List SlV), i + d = ws.length → OwnRow M0 M a l c vs (pk.take i) →
      ∃ M' a' l' c' vs', p38_1 C prog.meth (some (m, 0)) a l c i M = some (.sl a' l' c', M') ∧ OwnRow M0 M' a' l' c' vs' pk := by
  intro d
  have hlp := hp.length
  obtain ⟨qa, ql, qc, h1, h2, hfr, h4⟩ := h.ex
  have hlen := h2.length
  induction d with
  | zero =>
    intro i M a l c vs hi ho
    have hE := p38_1_eq C prog.meth (some (m, 0)) a l c i M
    have e1 : M.ldL m (0 + 0) = some (qa, ql, qc) := by unfold Mem.ldL; rw [ld_fix (ho.up.get h1)]; rfl
    have h3 : ¬ ((i : Int) < (ql : Int)) := by omega
    simp only [Option.bind_some, List.getElem?_cons_zero, List.getElem?_cons_succ, int?_int, AVal.bool?, AVal.ptr?, AVal.sl?, AVal.tup?, AVal.agg?, AVal.ifc?, AVal.fn?, AVal.str?, List.head?_cons, List.tail_cons, List.isEmpty_nil, cond_true, cond_false, Option.isNone_some, Option.isNone_none, Bool.not_true, Bool.not_false, decide_true, decide_false, beq_self_eq_true, bne_self_eq_false, Int.reduceBEq, Int.reduceBNe, Int.cast_ofNat_Int, e1, h3] at hE
    rw [List.take_of_length_le (by omega)] at ho
    exact ⟨M, a, l, c, vs, hE, ho⟩
  | succ d ih =>
    intro i M a l c vs hi ho
    have hil : i < ws.length := by omega
    have hE := p38_1_eq C prog.meth (some (m, 0)) a l c i M
    have e1 : M.ldL m (0 + 0) = some (qa, ql, qc) := by unfold Mem.ldL; rw [ld_fix (ho.up.get h1)]; rfl
    have h0 : (0 : Int) ≤ (i : Int) := by omega
    have h3 : ((i : Int) < (ql : Int)) := by omega
    have h5 : Nat.blt i ql = true := Mem.blt_iff.2 (by omega)
    obtain ⟨p, hp1, hget⟩ := (h2.sl.upto encS1 (by omega) ho.up).get encS1 (by omega) (i := i) (by omega)
    have g0 := hget 0 (by omega)
    simp only [encS, List.getElem?_cons_zero, Nat.add_zero] at g0
    have e2 : M.ldL p.1 (p.2 + i * 1) = some ws[i] := by unfold Mem.ldL; rw [g0]; rfl
    have hw2 : IntKind.wrap .i64 ((i : Int) + 1) = ((i + 1 : Nat) : Int) := by rw [wrap_i64 (by omega) (by omega)]; rfl
    have hb := bytesAt_upto (hp.get hil) ho.up
    obtain ⟨M1, v, c1, u1, o1, f1⟩ := CopyBytes_O (M := M) (a := ws[i].1) (l := ws[i].2.1) (c := ws[i].2.2) hb (by have := hsz ws[i] (List.getElem_mem hil); omega)
    have hla := ho.row.length
    have hlw := ho.len
    rw [List.length_take] at hlw
    obtain ⟨M2, q1, q2⟩ := ho.push (by omega) u1 o1 f1
    simp only [Option.bind_some, List.getElem?_cons_zero, List.getElem?_cons_succ, int?_int, AVal.bool?, AVal.ptr?, AVal.sl?, AVal.tup?, AVal.agg?, AVal.ifc?, AVal.fn?, AVal.str?, List.head?_cons, List.tail_cons, List.isEmpty_nil, cond_true, cond_false, Option.isNone_some, Option.isNone_none, Bool.not_true, Bool.not_false, decide_true, decide_false, beq_self_eq_true, bne_self_eq_false, Int.reduceBEq, Int.reduceBNe, Int.cast_ofNat_Int, e1, h3, h0, Int.toNat_natCast, h5, hp1, e2, c1, q1, hw2] at hE
    have htake : pk.take (i + 1) = pk.take i ++ [pk[i]'(by omega)] := by rw [List.take_add_one, List.getElem?_eq_getElem (by omega)]; rfl
    rw [← htake] at q2
    obtain ⟨M', a', l', c', vs', s1, s2⟩ := ih (i + 1) M2 _ _ _ _ (by omega) q2
    exact ⟨M', a', l', c', vs', hE.trans s1, s2⟩
theorem RAll_C {pk : List (List Int)} (h : IsRQ M fr m most ws) (hp : Pks M ws pk) (hsz : ∀ v ∈ ws, v.2.1 ≤ 2048) (hws : ws.length < 2 ^ 40) : ∃ M' a l c vs, C 38 [.ptr (some (m, 0))] M = some (.sl a l c, M') ∧ OwnRow M M' a l c vs pk := by
  obtain ⟨M', a', l', c', vs', s1, s2⟩ := rall_loop h hp hsz hws ws.length 0 M none 0 (.known 0) [] (by omega) (OwnRow.nil M)
  exact ⟨M', a', l', c', vs', c38 ((p38_0_eq _ _ _ _).trans s1), s2⟩
end

/-- What stands between two calls. -/
structure QS (M0 M : Mem) (q m room first : Nat) (fr : List Nat) (vs ws : List SlV) (pk : List (List Int)) : Prop where
  up : M0.Upto M
  iq : IsQ M q room first vs
  ir : IsRQ M fr m room ws
  pv : Pks M vs pk
  pw : Pks M ws pk
  sz : ∀ v ∈ vs ++ ws, v.2.1 ≤ 2048
  nq : M0.n ≤ q ∧ q ∉ fr
  nf : ∀ o ∈ fr, M0.n ≤ o
  sep : ∀ v ∈ vs ++ ws, ∀ o ∈ fpS v, o ≠ q ∧ o ∉ fr
section
variable {M0 M M' : Mem} {q m room first : Nat} {fr : List Nat} {vs ws : List SlV} {pk : List (List Int)}
/-- The objects that count. -/
def QS.fp (q : Nat) (fr : List Nat) (vs ws : List SlV) : List Nat := q :: (fr ++ (vs ++ ws).flatMap fpS)
theorem QS.lt (h : QS M0 M q m room first fr vs ws pk) : ∀ o ∈ QS.fp q fr vs ws, o < M.n := by
  intro o ho
  simp only [QS.fp, List.mem_cons, List.mem_append, List.mem_flatMap] at ho
  rcases ho with rfl | ho | ⟨v, hv | hv, ho⟩
  · exact h.iq.lt
  · exact h.ir.lt o ho
  · exact h.pv.lt v hv o ho
  · exact h.pw.lt v hv o ho
theorem QS.keep (h : QS M0 M q m room first fr vs ws pk) (hu : M0.Upto M') (hn : M.n ≤ M'.n) (hg : ∀ o ∈ QS.fp q fr vs ws, M'.get o = M.get o) : QS M0 M' q m room first fr vs ws pk := by
  have g1 : ∀ o ∈ fr, M'.get o = M.get o := fun o ho => hg o (by simp [QS.fp, ho])
  have g2 : ∀ v ∈ vs ++ ws, ∀ o ∈ fpS v, M'.get o = M.get o := fun v hv o ho => hg o (by
    simp only [QS.fp, List.mem_cons, List.mem_append, List.mem_flatMap]
    exact .inr (.inr ⟨v, by simpa using hv, ho⟩))
  exact ⟨hu, h.iq.same (hg q (by simp [QS.fp])), h.ir.same hn g1, h.pv.same (fun v hv => g2 v (by simp [hv])), h.pw.same (fun v hv => g2 v (by simp [hv])), h.sz, h.nq, h.nf, h.sep⟩
theorem QS.upto (h : QS M0 M q m room first fr vs ws pk) (hu : M.Upto M') : QS M0 M' q m room first fr vs ws pk := h.keep (h.up.trans hu) hu.1 (fun o ho => hu.2 o (h.lt o ho))
/-- What changes objects alone that do not count. -/
theorem QS.but {S : Nat → Prop} (h : QS M0 M q m room first fr vs ws pk) (hb : Mem.But S M M') (hs : ∀ o, S o → M0.n ≤ o) (hf : ∀ o ∈ QS.fp q fr vs ws, ¬ S o) : QS M0 M' q m room first fr vs ws pk :=
  h.keep ⟨by have := h.up.1; have := hb.1; omega, fun o ho => by rw [hb.2 o (by have := h.up.1; omega) (fun hx => by have := hs o hx; omega), h.up.2 o ho]⟩ hb.1 (fun o ho => hb.2 o (h.lt o ho) (hf o ho))
/-- Bytes of one's own are turned. -/
theorem turn_loop {l1 : Option (Nat × Nat)} {l2 : Nat} {l3 : Cap} {q' m' : Option (Nat × Nat)} {i0 : Int} {v : SlV} (hl : v.2.1 ≤ 2 ^ 47) :
    ∀ (d j : Nat) (M : Mem) (zs : List Int), j + d = v.2.1 → Own1 M v zs →
      ∃ M', p8_9 C prog.meth l1 l2 l3 q' m' i0 v.1 v.2.1 v.2.2 j M = p8_6 C prog.meth l1 l2 l3 q' m' i0 M' ∧ M'.n = M.n ∧ Mem.But (· ∈ fpS v) M M' := by
  intro d
  induction d with
  | zero =>
    intro j M zs hj ho
    have hE := p8_9_eq C prog.meth l1 l2 l3 q' m' i0 v.1 v.2.1 v.2.2 j M
    have h1 : ¬ ((j : Int) < (v.2.1 : Int)) := by omega
    simp only [Option.bind_some, List.getElem?_cons_zero, List.getElem?_cons_succ, int?_int, AVal.bool?, AVal.ptr?, AVal.sl?, AVal.tup?, AVal.agg?, AVal.ifc?, AVal.fn?, AVal.str?, List.head?_cons, List.tail_cons, List.isEmpty_nil, cond_true, cond_false, Option.isNone_some, Option.isNone_none, Bool.not_true, Bool.not_false, decide_true, decide_false, beq_self_eq_true, bne_self_eq_false, Int.reduceBEq, Int.reduceBNe, Int.cast_ofNat_Int, h1] at hE
    exact ⟨M, hE, rfl, Mem.But.refl _ _⟩
  | succ d ih =>
    intro j M zs hj ho
    have hE := p8_9_eq C prog.meth l1 l2 l3 q' m' i0 v.1 v.2.1 v.2.2 j M
    obtain ⟨o, e1, e2, g⟩ := ho.2 (by omega)
    have hzl := ho.1
    have h0 : (0 : Int) ≤ (j : Int) := by omega
    have h1 : ((j : Int) < (v.2.1 : Int)) := by omega
    have h2 : Nat.blt j v.2.1 = true := Mem.blt_iff.2 (by omega)
    have hw : IntKind.wrap .i64 ((j : Int) + 1) = ((j + 1 : Nat) : Int) := by rw [wrap_i64 (by omega) (by omega)]; rfl
    have hsp : slPtr v.1 v.2.2 = some (o, 0) := by rw [e1, e2]; rfl
    have hld : M.ldI .u8 o j = some (zs[j]'(by omega)) := ldI_ld.2 (by rw [ld_grow g]; simp [List.getElem?_eq_getElem (show j < zs.length by omega)])
    have hst := st_grow (i := j) (vs := [.int .u8 (turned (zs[j]'(by omega)))]) g (by simp; omega)
    rw [overL_one, show (zs.map (AVal.int .u8)).set j (.int .u8 (turned (zs[j]'(by omega)))) = (zs.set j (turned (zs[j]'(by omega)))).map (AVal.int .u8) from by rw [List.map_set]] at hst
    simp only [Option.bind_some, List.getElem?_cons_zero, List.getElem?_cons_succ, int?_int, AVal.bool?, AVal.ptr?, AVal.sl?, AVal.tup?, AVal.agg?, AVal.ifc?, AVal.fn?, AVal.str?, List.head?_cons, List.tail_cons, List.isEmpty_nil, cond_true, cond_false, Option.isNone_some, Option.isNone_none, Bool.not_true, Bool.not_false, decide_true, decide_false, beq_self_eq_true, bne_self_eq_false, Int.reduceBEq, Int.reduceBNe, Int.cast_ofNat_Int, h1, h0, Int.toNat_natCast, h2, hsp, Nat.zero_add, Nat.mul_one, hld, hst, hw] at hE
    have hol := Mem.get_lt g
    obtain ⟨M', q1, q2, q3⟩ := ih (j + 1) (M.put o ⟨(zs.set j (turned (zs[j]'(by omega)))).map (AVal.int .u8), .grow 1⟩) (zs.set j (turned (zs[j]'(by omega)))) (by omega) ⟨by simpa using hzl, fun _ => ⟨o, e1, e2, get_put_self hol⟩⟩
    have hof : o ∈ fpS v := by unfold fpS; rw [if_neg (by omega), e1]; simp [fpOf]
    exact ⟨M', hE.trans q1, q2.trans rfl, ((Mem.But.put _ _ _).mono (fun x hx => by subst hx; exact hof)).trans q3 (fun _ _ h => h)⟩
/-- Slices that are bytes of their own. -/
def OwnAll (M : Mem) (ws : List SlV) : Prop := ∀ v ∈ ws, ∃ zs, Own1 M v zs
theorem OwnAll.set {ws : List SlV} {o : Nat} {zs : List Int} {ys : List Int} (h : OwnAll M ws) (hg : M.get o = some ⟨zs.map (.int .u8), .grow 1⟩) (hl : ys.length = zs.length) : OwnAll (M.put o ⟨ys.map (.int .u8), .grow 1⟩) ws := by
  intro v hv
  obtain ⟨us, hu⟩ := h v hv
  by_cases h0 : 0 < v.2.1
  · obtain ⟨o', e1, e2, g⟩ := hu.2 h0
    by_cases e : o' = o
    · subst e
      rw [hg] at g
      have hzu : zs.length = us.length := by
        have := congrArg (fun x => (x.map (·.cells.length))) g
        simpa using this
      exact ⟨ys, by rw [hl, hzu]; exact hu.1, fun _ => ⟨o', e1, e2, get_put_self (Mem.get_lt hg)⟩⟩
    · exact ⟨us, hu.1, fun _ => ⟨o', e1, e2, (get_put_ne e).trans g⟩⟩
  · exact ⟨us, hu.1, fun h => absurd h h0⟩
theorem turn_inner {l1 : Option (Nat × Nat)} {l2 : Nat} {l3 : Cap} {q' m' : Option (Nat × Nat)} {i0 : Int} {xa : Option (Nat × Nat)} {xl : Nat} {xc : Cap} {us : List SlV} {k : Nat} (hk : k < us.length) (hxl : xl < 2 ^ 40) (hsz : ∀ v ∈ us, v.2.1 ≤ 2048) (hsep : ∀ v ∈ us, ∀ o ∈ fpS v, o ∉ fpOf xa) :
    ∀ (d j : Nat) (M : Mem), j + d = us[k].2.1 → Row M 1 encS xa xl xc us → OwnAll M us →
      ∃ M', p8_11 C prog.meth l1 l2 l3 q' m' i0 xa xl xc k j M = p8_10 C prog.meth l1 l2 l3 q' m' i0 xa xl xc ((k + 1 : Nat) : Int) M' ∧ M'.n = M.n ∧ Mem.But (· ∈ us.flatMap fpS) M M' ∧ Row M' 1 encS xa xl xc us ∧ OwnAll M' us := by
  have hv := hsz us[k] (List.getElem_mem hk)
  intro d
  induction d with
  | zero =>
    intro j M hj hr ho
    have hlen := hr.length
    have hE := p8_11_eq C prog.meth l1 l2 l3 q' m' i0 xa xl xc k j M
    have h0 : (0 : Int) ≤ (k : Int) := by omega
    have h2 : Nat.blt k xl = true := Mem.blt_iff.2 (by omega)
    obtain ⟨p, hp1, hget⟩ := hr.sl.get encS1 (by omega) (i := k) (by omega)
    have g0 := hget 0 (by omega)
    simp only [encS, List.getElem?_cons_zero, Nat.add_zero] at g0
    have e2 : M.ldL p.1 (p.2 + k * 1) = some us[k] := by unfold Mem.ldL; rw [g0]; rfl
    have h1 : ¬ ((j : Int) < (us[k].2.1 : Int)) := by omega
    have hw : IntKind.wrap .i64 ((k : Int) + 1) = ((k + 1 : Nat) : Int) := by rw [wrap_i64 (by omega) (by omega)]; rfl
    simp only [Option.bind_some, List.getElem?_cons_zero, List.getElem?_cons_succ, int?_int, AVal.bool?, AVal.ptr?, AVal.sl?, AVal.tup?, AVal.agg?, AVal.ifc?, AVal.fn?, AVal.str?, List.head?_cons, List.tail_cons, List.isEmpty_nil, cond_true, cond_false, Option.isNone_some, Option.isNone_none, Bool.not_true, Bool.not_false, decide_true, decide_false, beq_self_eq_true, bne_self_eq_false, Int.reduceBEq, Int.reduceBNe, Int.cast_ofNat_Int, h0, Int.toNat_natCast, h2, hp1, e2, h1, hw] at hE
    exact ⟨M, hE, rfl, Mem.But.refl _ _, hr, ho⟩
  | succ d ih =>
    intro j M hj hr ho
    have hlen := hr.length
    have hE := p8_11_eq C prog.meth l1 l2 l3 q' m' i0 xa xl xc k j M
    have h0 : (0 : Int) ≤ (k : Int) := by omega
    have h00 : (0 : Int) ≤ (j : Int) := by omega
    have h2 : Nat.blt k xl = true := Mem.blt_iff.2 (by omega)
    obtain ⟨p, hp1, hget⟩ := hr.sl.get encS1 (by omega) (i := k) (by omega)
    have g0 := hget 0 (by omega)
    simp only [encS, List.getElem?_cons_zero, Nat.add_zero] at g0
    have e2 : M.ldL p.1 (p.2 + k * 1) = some us[k] := by unfold Mem.ldL; rw [g0]; rfl
    have h1 : ((j : Int) < (us[k].2.1 : Int)) := by omega
    have h3 : Nat.blt j us[k].2.1 = true := Mem.blt_iff.2 (by omega)
    have hw : IntKind.wrap .i64 ((j : Int) + 1) = ((j + 1 : Nat) : Int) := by rw [wrap_i64 (by omega) (by omega)]; rfl
    obtain ⟨zs, hz⟩ := ho us[k] (List.getElem_mem hk)
    obtain ⟨o, e1, e3, g⟩ := hz.2 (by omega)
    have hzl := hz.1
    have hsp : slPtr us[k].1 us[k].2.2 = some (o, 0) := by rw [e1, e3]; rfl
    have hld : M.ldI .u8 o j = some (zs[j]'(by omega)) := ldI_ld.2 (by rw [ld_grow g]; simp [List.getElem?_eq_getElem (show j < zs.length by omega)])
    have hst := st_grow (i := j) (vs := [.int .u8 (turned (zs[j]'(by omega)))]) g (by simp; omega)
    rw [overL_one, show (zs.map (AVal.int .u8)).set j (.int .u8 (turned (zs[j]'(by omega)))) = (zs.set j (turned (zs[j]'(by omega)))).map (AVal.int .u8) from by rw [List.map_set]] at hst
    simp only [Option.bind_some, List.getElem?_cons_zero, List.getElem?_cons_succ, int?_int, AVal.bool?, AVal.ptr?, AVal.sl?, AVal.tup?, AVal.agg?, AVal.ifc?, AVal.fn?, AVal.str?, List.head?_cons, List.tail_cons, List.isEmpty_nil, cond_true, cond_false, Option.isNone_some, Option.isNone_none, Bool.not_true, Bool.not_false, decide_true, decide_false, beq_self_eq_true, bne_self_eq_false, Int.reduceBEq, Int.reduceBNe, Int.cast_ofNat_Int, h0, h00, Int.toNat_natCast, h2, hp1, e2, h1, h3, hsp, Nat.zero_add, Nat.mul_one, hld, hst, hw] at hE
    rw [Nat.mul_one] at e2
    simp only [Option.bind_some, List.getElem?_cons_zero, List.getElem?_cons_succ, int?_int, AVal.bool?, AVal.ptr?, AVal.sl?, AVal.tup?, AVal.agg?, AVal.ifc?, AVal.fn?, AVal.str?, List.head?_cons, List.tail_cons, List.isEmpty_nil, cond_true, cond_false, Option.isNone_some, Option.isNone_none, Bool.not_true, Bool.not_false, decide_true, decide_false, beq_self_eq_true, bne_self_eq_false, Int.reduceBEq, Int.reduceBNe, Int.cast_ofNat_Int, e2, h1, h3, hsp, Nat.zero_add, hld, hst] at hE
    have hof : o ∈ fpS us[k] := by unfold fpS; rw [if_neg (by omega), e1]; simp [fpOf]
    have hox := hsep us[k] (List.getElem_mem hk) o hof
    obtain ⟨M', q1, q2, q3, q4, q5⟩ := ih (j + 1) (M.put o ⟨(zs.set j (turned (zs[j]'(by omega)))).map (AVal.int .u8), .grow 1⟩) (by omega) (hr.same (fun r hr' => get_put_ne (fun e => hox (by subst e; exact hr')))) (ho.set g (by simp))
    exact ⟨M', hE.trans q1, q2.trans rfl, ((Mem.But.put _ _ _).mono (fun x hx => by subst hx; exact List.mem_flatMap.2 ⟨_, List.getElem_mem hk, hof⟩)).trans q3 (fun _ _ h => h), q4, q5⟩
theorem turn_outer {l1 : Option (Nat × Nat)} {l2 : Nat} {l3 : Cap} {q' m' : Option (Nat × Nat)} {i0 : Int} {xa : Option (Nat × Nat)} {xl : Nat} {xc : Cap} {us : List SlV} (hxl : xl < 2 ^ 40) (hsz : ∀ v ∈ us, v.2.1 ≤ 2048) (hsep : ∀ v ∈ us, ∀ o ∈ fpS v, o ∉ fpOf xa) :
    ∀ (d k : Nat) (M : Mem), k + d = xl → Row M 1 encS xa xl xc us → OwnAll M us →
      ∃ M', p8_10 C prog.meth l1 l2 l3 q' m' i0 xa xl xc k M = p8_10 C prog.meth l1 l2 l3 q' m' i0 xa xl xc xl M' ∧ M'.n = M.n ∧ Mem.But (· ∈ us.flatMap fpS) M M' := by
  intro d
  induction d with
  | zero =>
    intro k M hk hr ho
    obtain rfl : k = xl := by omega
    exact ⟨M, rfl, rfl, Mem.But.refl _ _⟩
  | succ d ih =>
    intro k M hk hr ho
    have hlen := hr.length
    have hE := p8_10_eq C prog.meth l1 l2 l3 q' m' i0 xa xl xc k M
    have h1 : ((k : Int) < (xl : Int)) := by omega
    simp only [h1, decide_true, cond_true] at hE
    obtain ⟨M1, q1, q2, q3, q4, q5⟩ := turn_inner (l1 := l1) (l2 := l2) (l3 := l3) (q' := q') (m' := m') (i0 := i0) (k := k) (by omega) hxl hsz hsep us[k].2.1 0 M (by omega) hr ho
    obtain ⟨M2, s1, s2, s3⟩ := ih (k + 1) M1 (by omega) q4 q5
    exact ⟨M2, (hE.trans q1).trans s1, s2.trans q2, q3.trans s3 (fun _ _ h => h)⟩
end
end Go.Proofs.Ytndolnehppadnaa.M
