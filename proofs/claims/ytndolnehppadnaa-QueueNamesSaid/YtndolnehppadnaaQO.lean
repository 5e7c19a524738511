/- QueueOrder. -/
import Derived.Test.YtndolnehppadnaaQM
set_option linter.unusedVariables false
set_option linter.unusedSimpArgs false
set_option linter.unnecessarySimpa false
set_option maxRecDepth 100000
namespace Go.Proofs.Ytndolnehppadnaa.M
open Go.Abs

/-- What stands between two calls: the queue, what went in, what came out. -/
structure OS (M0 M : Mem) (q room first : Nat) (vs : List SlV) (qk : List (List Int)) (ix : SlV) (us : List SlV) (ik : List (List Int)) (ox : SlV) (ts : List SlV) (ok : List (List Int)) : Prop where
  up : M0.Upto M
  iq : IsQ M q room first vs
  pv : Pks M vs qk
  rin : Row M 1 encS ix.1 ix.2.1 ix.2.2 us
  pin : Pks M us ik
  rout : Row M 1 encS ox.1 ox.2.1 ox.2.2 ts
  pout : Pks M ts ok
  all : ik = ok ++ qk
  sz : ∀ v ∈ vs ++ us ++ ts, v.2.1 ≤ 2048
  nq : M0.n ≤ q
  nin : ∀ o ∈ fpOf ix.1, M0.n ≤ o ∧ o < M.n ∧ o ≠ q ∧ o ∉ fpOf ox.1
  nout : ∀ o ∈ fpOf ox.1, M0.n ≤ o ∧ o < M.n ∧ o ≠ q
  sep : ∀ v ∈ vs ++ us ++ ts, ∀ o ∈ fpS v, o < M.n ∧ o ≠ q ∧ o ∉ fpOf ix.1 ∧ o ∉ fpOf ox.1
section
variable {M0 M M' M1 M2 : Mem} {q room first first1 : Nat} {vs us ts : List SlV} {qk ik ok : List (List Int)} {ix ox : SlV} {v u : SlV} {b : List Int}
theorem OS.lens (h : OS M0 M q room first vs qk ix us ik ox ts ok) : ix.2.1 = ox.2.1 + vs.length := by
  have e1 := h.rin.length
  have e2 := h.pin.length
  have e3 := h.rout.length
  have e4 := h.pout.length
  have e5 := h.pv.length
  have e6 := congrArg List.length h.all
  rw [List.length_append] at e6
  omega
theorem OS.upto (h : OS M0 M q room first vs qk ix us ik ox ts ok) (hu : M.Upto M') : OS M0 M' q room first vs qk ix us ik ox ts ok :=
  ⟨h.up.trans hu, h.iq.same (hu.2 _ h.iq.lt), h.pv.upto hu, h.rin.upto encS1 (by omega) hu, h.pin.upto hu, h.rout.upto encS1 (by omega) hu, h.pout.upto hu, h.all, h.sz, h.nq,
    fun o ho => by have := h.nin o ho; have := hu.1; exact ⟨by omega, by omega, by omega, (h.nin o ho).2.2.2⟩, fun o ho => by have := h.nout o ho; have := hu.1; omega, fun v hv o ho => by have := h.sep v hv o ho; have := hu.1; exact ⟨by omega, (h.sep v hv o ho).2⟩⟩
theorem OS.took (h : OS M0 M q room first (v :: vs) (b :: qk) ix us ik ox ts ok) (q1 : IsQ M1 q room first1 vs) (n1 : M1.n = M.n) (b1 : Mem.But (· = q) M M1) (hl : ox.2.1 < 2 ^ 40) :
    ∃ M', (∀ {β : Type} (K : Option (Nat × Nat) → Nat → Cap → Mem → Option β), appK false 1 24 (M1.alloc ⟨[.sl v.1 v.2.1 v.2.2], .fixed⟩) ox.1 ox.2.1 ox.2.2 (.sl (some (M1.n, 0)) 1 (.known 1)) K = K (some (M1.n + 1, 0)) (ox.2.1 + 1) (.unk 0) M') ∧
      OS M0 M' q room first1 vs qk ix us ik (some (M1.n + 1, 0), ox.2.1 + 1, .unk 0) (ts ++ [v]) (ok ++ [b]) := by
  have hup := h.up.1
  have ro1 : Row M1 1 encS ox.1 ox.2.1 ox.2.2 ts := h.rout.same (fun o ho => b1.2 o (h.nout o ho).2.1 (h.nout o ho).2.2)
  obtain ⟨M', s1, s2, s3, s4, s5⟩ := ro1.push (bytes := 24) (y := v) (cs := [.sl v.1 v.2.1 v.2.2]) encS1 (by omega) rfl (by omega)
  have keep : ∀ o, o < M.n → o ≠ q → o ∉ fpOf ox.1 → M'.get o = M.get o := fun o h1 h2 h3 => by rw [s4.2 o (by omega) h3, b1.2 o h1 h2]
  have ks : ∀ v' ∈ (v :: vs) ++ us ++ ts, ∀ o ∈ fpS v', M'.get o = M.get o := fun v' hv o ho => by
    have hx := h.sep v' hv o ho
    exact keep o hx.1 hx.2.1 hx.2.2.2
  have hql := q1.lt
  refine ⟨M', s1, ⟨⟨by omega, fun o ho => ?_⟩, q1.same (s4.2 q hql (fun hx => (h.nout q hx).2.2 rfl)), (h.pv.drop 1).same (fun v' hv => ks v' (by simp at hv; simp [hv])), h.rin.same (fun o ho => by have hx := h.nin o ho; exact keep o hx.2.1 hx.2.2.1 hx.2.2.2), h.pin.same (fun v' hv => ks v' (by simp [hv])), s2, ?_, ?_, ?_, h.nq, ?_, ?_, ?_⟩⟩
  · rw [keep o (by omega) (by have := h.nq; omega) (fun hx => by have := h.nout o hx; omega), h.up.2 o ho]
  · exact (h.pout.same (fun v' hv => ks v' (by simp [hv]))).app (Pks.one ((bytesAt_same (ks v (by simp))).trans (h.pv.get (i := 0) (by simp))))
  · rw [h.all]; simp
  · intro v' hv
    refine h.sz v' ?_
    simp only [List.mem_append, List.mem_cons, List.not_mem_nil, or_false] at hv
    rcases hv with (h1 | h1) | (h1 | h1) <;> simp [h1]
  · intro o ho
    have hx := h.nin o ho
    exact ⟨hx.1, by omega, hx.2.2.1, by simp [fpOf]; omega⟩
  · intro o ho
    simp only [fpOf, List.mem_singleton] at ho
    omega
  · intro v' hv o ho
    have hx := h.sep v' (by
      simp only [List.mem_append, List.mem_cons, List.not_mem_nil, or_false] at hv
      rcases hv with (h1 | h1) | (h1 | h1) <;> simp [h1]) o ho
    exact ⟨by omega, hx.2.1, hx.2.2.1, by simp [fpOf]; omega⟩
theorem OS.putd (h : OS M0 M q room first vs qk ix us ik ox ts ok) (q1 : IsQ M1 q room first1 (vs ++ [v])) (n1 : M.n ≤ M1.n) (b1 : Mem.But (· = q) M M1) (ov : Own1 M1 v b) (fv : ∀ o ∈ fpS v, M.n ≤ o) (hu : M1.Upto M2) (ou : Own1 M2 u b) (fu : ∀ o ∈ fpS u, M1.n ≤ o) (hb : b.length ≤ 2048) (hl : ix.2.1 < 2 ^ 40) :
    ∃ M', (∀ {β : Type} (K : Option (Nat × Nat) → Nat → Cap → Mem → Option β), appK false 1 24 (M2.alloc ⟨[.sl u.1 u.2.1 u.2.2], .fixed⟩) ix.1 ix.2.1 ix.2.2 (.sl (some (M2.n, 0)) 1 (.known 1)) K = K (some (M2.n + 1, 0)) (ix.2.1 + 1) (.unk 0) M') ∧
      OS M0 M' q room first1 (vs ++ [v]) (qk ++ [b]) (some (M2.n + 1, 0), ix.2.1 + 1, .unk 0) (us ++ [u]) (ik ++ [b]) ox ts ok := by
  have hup := h.up.1
  have n2 := hu.1
  have ri2 : Row M2 1 encS ix.1 ix.2.1 ix.2.2 us := (h.rin.same (fun o ho => b1.2 o (h.nin o ho).2.1 (h.nin o ho).2.2.1)).upto encS1 (by omega) hu
  obtain ⟨M', s1, s2, s3, s4, s5⟩ := ri2.push (bytes := 24) (y := u) (cs := [.sl u.1 u.2.1 u.2.2]) encS1 (by omega) rfl (by omega)
  have keep : ∀ o, o < M.n → o ≠ q → o ∉ fpOf ix.1 → M'.get o = M.get o := fun o h1 h2 h3 => by rw [s4.2 o (by omega) h3, hu.2 o (by omega), b1.2 o h1 h2]
  have ks : ∀ v' ∈ vs ++ us ++ ts, ∀ o ∈ fpS v', M'.get o = M.get o := fun v' hv o ho => by
    have hx := h.sep v' hv o ho
    exact keep o hx.1 hx.2.1 hx.2.2.1
  have hql := q1.lt
  have hqo := h.iq.lt
  have hvl := ov.lt
  have hul := ou.lt
  have kv : ∀ o ∈ fpS v, M'.get o = M1.get o := fun o ho => by rw [s4.2 o (by have := hvl o ho; omega) (fun hx => by have := fv o ho; have := h.nin o hx; omega), hu.2 o (hvl o ho)]
  have ku : ∀ o ∈ fpS u, M'.get o = M2.get o := fun o ho => s4.2 o (hul o ho) (fun hx => by have := fu o ho; have := h.nin o hx; omega)
  have hvb := ov.1
  have hub := ou.1
  refine ⟨M', s1, ⟨⟨by omega, fun o ho => ?_⟩, q1.same (by rw [s4.2 q (by omega) (fun hx => (h.nin q hx).2.2.1 rfl), hu.2 q hql]), (h.pv.same (fun v' hv => ks v' (by simp [hv]))).app (Pks.one (ov.same kv).bytes), s2, (h.pin.same (fun v' hv => ks v' (by simp [hv]))).app (Pks.one (ou.same ku).bytes), h.rout.same (fun o ho => by have hx := h.nout o ho; exact keep o hx.2.1 hx.2.2 (fun hi => (h.nin o hi).2.2.2 ho)), h.pout.same (fun v' hv => ks v' (by simp [hv])), ?_, ?_, h.nq, ?_, ?_, ?_⟩⟩
  · rw [keep o (by omega) (by have := h.nq; omega) (fun hx => by have := h.nin o hx; omega), h.up.2 o ho]
  · rw [h.all]; simp
  · intro v' hv
    simp only [List.mem_append, List.mem_cons, List.not_mem_nil, or_false] at hv
    rcases hv with ((hv | rfl) | (hv | rfl)) | hv
    · exact h.sz v' (by simp [hv])
    · omega
    · exact h.sz v' (by simp [hv])
    · omega
    · exact h.sz v' (by simp [hv])
  · intro o ho
    simp only [fpOf, List.mem_singleton] at ho
    exact ⟨by omega, by omega, by omega, fun hx => by have := h.nout o hx; omega⟩
  · intro o ho
    have hx := h.nout o ho
    exact ⟨hx.1, by omega, hx.2.2⟩
  · intro v' hv o ho
    have hold : v' ∈ vs ++ us ++ ts → o < M'.n ∧ o ≠ q ∧ o ∉ fpOf (some (M2.n + 1, 0)) ∧ o ∉ fpOf ox.1 := fun hv' => by
      have hx := h.sep v' hv' o ho
      exact ⟨by omega, hx.2.1, by simp [fpOf]; omega, hx.2.2.2⟩
    simp only [List.mem_append, List.mem_cons, List.not_mem_nil, or_false] at hv
    rcases hv with ((hv | rfl) | (hv | rfl)) | hv
    · exact hold (by simp [hv])
    · have e1 := hvl o ho
      have e2 := fv o ho
      exact ⟨by omega, by omega, by simp [fpOf]; omega, fun hx => by have := h.nout o hx; omega⟩
    · exact hold (by simp [hv])
    · have e1 := hul o ho
      have e2 := fu o ho
      exact ⟨by omega, by omega, by simp [fpOf]; omega, fun hx => by have := h.nout o hx; omega⟩
    · exact hold (by simp [hv])
end
theorem drain {M0 : Mem} {q room : Nat} {ix : SlV} {us : List SlV} {ik : List (List Int)} (hl : ix.2.1 < 2 ^ 40) : ∀ (vs : List SlV) (M : Mem) (first : Nat) (qk : List (List Int)) (ox : SlV) (ts : List SlV) (ok : List (List Int)),
    OS M0 M q room first vs qk ix us ik ox ts ok → ∃ M', p9_3 C prog.meth (some (q, 0)) ix.1 ix.2.1 ix.2.2 ox.1 ox.2.1 ox.2.2 M = some (.bool true, M') ∧ M0.Upto M' := by
  intro vs
  induction vs with
  | nil =>
    intro M first qk ox ts ok h
    have hE := p9_3_eq C prog.meth (some (q, 0)) ix.1 ix.2.1 ix.2.2 ox.1 ox.2.1 ox.2.2 M
    have hle := h.lens
    have h1 : ¬ ((ox.2.1 : Int) < (ix.2.1 : Int)) := by simp at hle; omega
    obtain rfl : qk = [] := List.length_eq_zero_iff.1 (by simpa using h.pv.length.symm)
    have hio : ik = ok := by rw [h.all]; simp
    have c1 := Take0_C h.iq
    have c2 := EqRows_C h.rin.sl h.rout.sl h.pin h.pout (by omega) (fun v hv => by have := h.sz v (by simp [hv]); omega)
    have c3 := QLen_C h.iq
    obtain ⟨M1, xa, xl, xc, ws, c4, o4⟩ := All_C h.iq h.pv (by simp)
    have hxl : xl = 0 := by have e1 := o4.row.length; have e2 := o4.len; rw [List.length_nil] at e2; omega
    subst hxl
    simp only [Option.bind_some, List.getElem?_cons_zero, List.getElem?_cons_succ, int?_int, AVal.bool?, AVal.ptr?, AVal.sl?, AVal.tup?, AVal.agg?, AVal.ifc?, AVal.fn?, AVal.str?, List.head?_cons, List.tail_cons, List.isEmpty_nil, cond_true, cond_false, Option.isNone_some, Option.isNone_none, Bool.not_true, Bool.not_false, decide_true, decide_false, beq_self_eq_true, bne_self_eq_false, Int.reduceBEq, Int.reduceBNe, Int.cast_ofNat_Int, h1, c1, c2, hio, c3, List.length_nil, c4] at hE
    exact ⟨M1, hE, h.up.trans o4.up⟩
  | cons v vs ih =>
    intro M first qk ox ts ok h
    have hE := p9_3_eq C prog.meth (some (q, 0)) ix.1 ix.2.1 ix.2.2 ox.1 ox.2.1 ox.2.2 M
    have hle := h.lens
    rw [List.length_cons] at hle
    have h1 : ((ox.2.1 : Int) < (ix.2.1 : Int)) := by omega
    cases qk with
    | nil => have := h.pv.length; simp at this
    | cons b qk =>
      obtain ⟨M1, c1, q1, n1, b1⟩ := Take_C h.iq
      obtain ⟨M2, s1, s2⟩ := h.took q1 n1 b1 (by omega)
      simp only [Option.bind_some, List.getElem?_cons_zero, List.getElem?_cons_succ, int?_int, AVal.bool?, AVal.ptr?, AVal.sl?, AVal.tup?, AVal.agg?, AVal.ifc?, AVal.fn?, AVal.str?, List.head?_cons, List.tail_cons, List.isEmpty_nil, cond_true, cond_false, Option.isNone_some, Option.isNone_none, Bool.not_true, Bool.not_false, decide_true, decide_false, beq_self_eq_true, bne_self_eq_false, Int.reduceBEq, Int.reduceBNe, Int.cast_ofNat_Int, h1, c1, s1] at hE
      obtain ⟨M', e, eu⟩ := ih M2 _ qk _ _ _ s2
      exact ⟨M', hE.trans e, eu⟩
theorem order_loop {M0 : Mem} {a1 : Option (Nat × Nat)} {l1 : Nat} {cq : Cap} {q room : Nat} (hv : QRows M0 a1 l1 cq) :
    ∀ (d i : Nat) (M : Mem) (first : Nat) (vs : List SlV) (qk : List (List Int)) (ix : SlV) (us : List SlV) (ik : List (List Int)) (ox : SlV) (ts : List SlV) (ok : List (List Int)), i + d = 150 → ix.2.1 ≤ i → OS M0 M q room first vs qk ix us ik ox ts ok →
      ∃ M', p9_1 C prog.meth (room : Int) a1 l1 cq (some (q, 0)) ix.1 ix.2.1 ix.2.2 ox.1 ox.2.1 ox.2.2 i M = some (.bool true, M') ∧ M0.Upto M' := by
  intro d
  induction d with
  | zero =>
    intro i M first vs qk ix us ik ox ts ok hi hil h
    have hE := p9_1_eq C prog.meth (room : Int) a1 l1 cq (some (q, 0)) ix.1 ix.2.1 ix.2.2 ox.1 ox.2.1 ox.2.2 i M
    have h150 : ¬ ((i : Int) < 150) := by omega
    obtain ⟨M', e, eu⟩ := drain (by omega) vs M first qk ox ts ok h
    simp only [Option.bind_some, List.getElem?_cons_zero, List.getElem?_cons_succ, int?_int, AVal.bool?, AVal.ptr?, AVal.sl?, AVal.tup?, AVal.agg?, AVal.ifc?, AVal.fn?, AVal.str?, List.head?_cons, List.tail_cons, List.isEmpty_nil, cond_true, cond_false, Option.isNone_some, Option.isNone_none, Bool.not_true, Bool.not_false, decide_true, decide_false, beq_self_eq_true, bne_self_eq_false, Int.reduceBEq, Int.reduceBNe, Int.cast_ofNat_Int, h150, e] at hE
    exact ⟨M', by rw [hE]; cases decide ((i : Int) < (l1 : Int)) <;> rfl, eu⟩
  | succ d ih =>
    intro i M first vs qk ix us ik ox ts ok hi hil h
    have hE := p9_1_eq C prog.meth (room : Int) a1 l1 cq (some (q, 0)) ix.1 ix.2.1 ix.2.2 ox.1 ox.2.1 ox.2.2 i M
    have h150 : ((i : Int) < 150) := by omega
    by_cases hl1 : (i : Int) < (l1 : Int)
    rotate_left
    · obtain ⟨M', e, eu⟩ := drain (by omega) vs M first qk ox ts ok h
      simp only [Option.bind_some, List.getElem?_cons_zero, List.getElem?_cons_succ, int?_int, AVal.bool?, AVal.ptr?, AVal.sl?, AVal.tup?, AVal.agg?, AVal.ifc?, AVal.fn?, AVal.str?, List.head?_cons, List.tail_cons, List.isEmpty_nil, cond_true, cond_false, Option.isNone_some, Option.isNone_none, Bool.not_true, Bool.not_false, decide_true, decide_false, beq_self_eq_true, bne_self_eq_false, Int.reduceBEq, Int.reduceBNe, Int.cast_ofNat_Int, hl1, e] at hE
      exact ⟨M', hE, eu⟩
    simp only [h150, hl1, decide_true, cond_true] at hE
    have hwi : IntKind.wrap .i64 ((i : Int) + 1) = ((i + 1 : Nat) : Int) := by rw [wrap_i64 (by omega) (by omega)]; rfl
    obtain ⟨p, bk, ba, bl, bc, bs, hp, hbs, hbl, hbw, hld⟩ := hv i (by omega)
    have ldb : M.ldB p.1 (p.2 + i * 2) = some bk := by
      have := hld M h.up 0 (by simp)
      simp only [List.length_cons, List.length_nil, Nat.zero_add, Nat.reduceAdd, Nat.add_zero, List.getElem?_cons_zero] at this
      unfold Mem.ldB; rw [this]; rfl
    have ldL : ∀ M', M0.Upto M' → M'.ldL p.1 (p.2 + i * 2 + 1) = some (ba, bl, bc) := fun M' hu => by
      have : M'.ld p.1 (p.2 + i * 2 + 1) = some (.sl ba bl bc) := by rw [Nat.add_assoc]; simpa using hld M' hu 1 (by simp)
      unfold Mem.ldL; rw [this]; rfl
    have h0 : (0 : Int) ≤ (i : Int) := by omega
    have h2 : Nat.blt i l1 = true := Mem.blt_iff.2 (by omega)
    have hle := h.lens
    have hrm := h.iq.h2
    have hrm2 := h.iq.h3
    have hE2 := p9_2_eq C prog.meth (room : Int) a1 l1 cq (some (q, 0)) ix.1 ix.2.1 ix.2.2 ox.1 ox.2.1 ox.2.2 i M
    have hws : IntKind.wrap .i64 ((ix.2.1 : Int) - (ox.2.1 : Int)) = (vs.length : Int) := by rw [wrap_i64 (by omega) (by omega)]; omega
    have l0 := ldL M h.up
    cases bk with
    | true =>
      simp only [Option.bind_some, List.getElem?_cons_zero, List.getElem?_cons_succ, int?_int, AVal.bool?, AVal.ptr?, AVal.sl?, AVal.tup?, AVal.agg?, AVal.ifc?, AVal.fn?, AVal.str?, List.head?_cons, List.tail_cons, List.isEmpty_nil, cond_true, cond_false, Option.isNone_some, Option.isNone_none, Bool.not_true, Bool.not_false, decide_true, decide_false, beq_self_eq_true, bne_self_eq_false, Int.reduceBEq, Int.reduceBNe, Int.cast_ofNat_Int, h0, Int.toNat_natCast, h2, hp, Nat.add_zero, ldb] at hE2
      have hE4 := p9_4_eq C prog.meth (room : Int) a1 l1 cq (some (q, 0)) ix.1 ix.2.1 ix.2.2 ox.1 ox.2.1 ox.2.2 i M
      cases vs with
      | nil =>
        have hlt : ¬ ((ox.2.1 : Int) < (ix.2.1 : Int)) := by simp at hle; omega
        have c1 := Take0_C h.iq
        simp only [Option.bind_some, List.getElem?_cons_zero, List.getElem?_cons_succ, int?_int, AVal.bool?, AVal.ptr?, AVal.sl?, AVal.tup?, AVal.agg?, AVal.ifc?, AVal.fn?, AVal.str?, List.head?_cons, List.tail_cons, List.isEmpty_nil, cond_true, cond_false, Option.isNone_some, Option.isNone_none, Bool.not_true, Bool.not_false, decide_true, decide_false, beq_self_eq_true, bne_self_eq_false, Int.reduceBEq, Int.reduceBNe, Int.cast_ofNat_Int, c1, hlt, hwi] at hE4
        obtain ⟨M', e, eu⟩ := ih (i + 1) M first [] qk ix us ik ox ts ok (by omega) (by omega) h
        exact ⟨M', hE.trans (hE2.trans (hE4.trans e)), eu⟩
      | cons v vs =>
        rw [List.length_cons] at hle
        have hlt : ((ox.2.1 : Int) < (ix.2.1 : Int)) := by omega
        cases qk with
        | nil => have := h.pv.length; simp at this
        | cons b qk =>
          obtain ⟨M1, c1, q1, n1, b1⟩ := Take_C h.iq
          obtain ⟨M2, s1, s2⟩ := h.took q1 n1 b1 (by omega)
          simp only [Option.bind_some, List.getElem?_cons_zero, List.getElem?_cons_succ, int?_int, AVal.bool?, AVal.ptr?, AVal.sl?, AVal.tup?, AVal.agg?, AVal.ifc?, AVal.fn?, AVal.str?, List.head?_cons, List.tail_cons, List.isEmpty_nil, cond_true, cond_false, Option.isNone_some, Option.isNone_none, Bool.not_true, Bool.not_false, decide_true, decide_false, beq_self_eq_true, bne_self_eq_false, Int.reduceBEq, Int.reduceBNe, Int.cast_ofNat_Int, c1, hlt, s1, hwi] at hE4
          obtain ⟨M', e, eu⟩ := ih (i + 1) M2 _ _ _ _ _ _ _ _ _ (by omega) (by omega) s2
          exact ⟨M', hE.trans (hE2.trans (hE4.trans e)), eu⟩
    | false =>
      -- p9_6
      have six : ∀ (M : Mem) (first : Nat) (vs : List SlV) (qk : List (List Int)) (ix : SlV) (us : List SlV) (ik : List (List Int)), ix.2.1 ≤ i + 1 → OS M0 M q room first vs qk ix us ik ox ts ok → ∃ M', p9_6 C prog.meth (room : Int) a1 l1 cq (some (q, 0)) ix.1 ix.2.1 ix.2.2 ox.1 ox.2.1 ox.2.2 i M = some (.bool true, M') ∧ M0.Upto M' := by
        intro M first vs qk ix us ik hil h
        have hE := p9_6_eq C prog.meth (room : Int) a1 l1 cq (some (q, 0)) ix.1 ix.2.1 ix.2.2 ox.1 ox.2.1 ox.2.2 i M
        have hle := h.lens
        have hws : IntKind.wrap .i64 ((ix.2.1 : Int) - (ox.2.1 : Int)) = (vs.length : Int) := by rw [wrap_i64 (by omega) (by omega)]; omega
        have hne : (((vs.length : Nat) : Int) != (vs.length : Int)) = false := bne_self_eq_false _
        have c1 := QLen_C h.iq
        simp only [Option.bind_some, List.getElem?_cons_zero, List.getElem?_cons_succ, int?_int, AVal.bool?, AVal.ptr?, AVal.sl?, AVal.tup?, AVal.agg?, AVal.ifc?, AVal.fn?, AVal.str?, List.head?_cons, List.tail_cons, List.isEmpty_nil, cond_true, cond_false, Option.isNone_some, Option.isNone_none, Bool.not_true, Bool.not_false, decide_true, decide_false, beq_self_eq_true, bne_self_eq_false, Int.reduceBEq, Int.reduceBNe, Int.cast_ofNat_Int, c1, hws, hne, hwi] at hE
        obtain ⟨M', e, eu⟩ := ih (i + 1) M first vs qk ix us ik ox ts ok (by omega) hil h
        exact ⟨M', hE.trans e, eu⟩
      have hE5 := fun e M => p9_5_eq C prog.meth (room : Int) a1 l1 cq (some (q, 0)) ix.1 ix.2.1 ix.2.2 ox.1 ox.2.1 ox.2.2 i e M
      rcases Put_C h.iq (ints_upto hbs h.up) with ⟨p1, p2⟩ | ⟨p1, p0, p2⟩ | ⟨p1, p0, M1, v, p2, p3, p4, p5, p6, p7⟩
      · have hb : ¬ ((bl : Int) ≤ 2048) := by omega
        have hE5 := hE5 5 M
        simp only [Option.bind_some, List.getElem?_cons_zero, List.getElem?_cons_succ, int?_int, AVal.bool?, AVal.ptr?, AVal.sl?, AVal.tup?, AVal.agg?, AVal.ifc?, AVal.fn?, AVal.str?, List.head?_cons, List.tail_cons, List.isEmpty_nil, cond_true, cond_false, Option.isNone_some, Option.isNone_none, Bool.not_true, Bool.not_false, decide_true, decide_false, beq_self_eq_true, bne_self_eq_false, Int.reduceBEq, Int.reduceBNe, Int.cast_ofNat_Int] at hE5
        simp only [Option.bind_some, List.getElem?_cons_zero, List.getElem?_cons_succ, int?_int, AVal.bool?, AVal.ptr?, AVal.sl?, AVal.tup?, AVal.agg?, AVal.ifc?, AVal.fn?, AVal.str?, List.head?_cons, List.tail_cons, List.isEmpty_nil, cond_true, cond_false, Option.isNone_some, Option.isNone_none, Bool.not_true, Bool.not_false, decide_true, decide_false, beq_self_eq_true, bne_self_eq_false, Int.reduceBEq, Int.reduceBNe, Int.cast_ofNat_Int, h0, Int.toNat_natCast, h2, hp, Nat.add_zero, ldb, l0, p2, hb] at hE2
        obtain ⟨M', e, eu⟩ := six M first vs qk ix us ik (by omega) h
        exact ⟨M', hE.trans (hE2.trans (hE5.trans e)), eu⟩
      · have hb : ((bl : Int) ≤ 2048) := by omega
        have hvr : ¬ ((vs.length : Int) < (room : Int)) := by omega
        have hE5 := hE5 260 M
        simp only [Option.bind_some, List.getElem?_cons_zero, List.getElem?_cons_succ, int?_int, AVal.bool?, AVal.ptr?, AVal.sl?, AVal.tup?, AVal.agg?, AVal.ifc?, AVal.fn?, AVal.str?, List.head?_cons, List.tail_cons, List.isEmpty_nil, cond_true, cond_false, Option.isNone_some, Option.isNone_none, Bool.not_true, Bool.not_false, decide_true, decide_false, beq_self_eq_true, bne_self_eq_false, Int.reduceBEq, Int.reduceBNe, Int.cast_ofNat_Int] at hE5
        simp only [Option.bind_some, List.getElem?_cons_zero, List.getElem?_cons_succ, int?_int, AVal.bool?, AVal.ptr?, AVal.sl?, AVal.tup?, AVal.agg?, AVal.ifc?, AVal.fn?, AVal.str?, List.head?_cons, List.tail_cons, List.isEmpty_nil, cond_true, cond_false, Option.isNone_some, Option.isNone_none, Bool.not_true, Bool.not_false, decide_true, decide_false, beq_self_eq_true, bne_self_eq_false, Int.reduceBEq, Int.reduceBNe, Int.cast_ofNat_Int, h0, Int.toNat_natCast, h2, hp, Nat.add_zero, ldb, l0, p2, hb, hws, hvr] at hE2
        obtain ⟨M', e, eu⟩ := six M first vs qk ix us ik (by omega) h
        exact ⟨M', hE.trans (hE2.trans (hE5.trans e)), eu⟩
      · have hb : ((bl : Int) ≤ 2048) := by omega
        have hvr : ((vs.length : Int) < (room : Int)) := by omega
        have hup := h.up.1
        have hql := h.nq
        have u1 : M0.Upto M1 := ⟨by omega, fun o ho => by rw [p5.2 o (by omega) (by omega), h.up.2 o ho]⟩
        have l1' := ldL M1 u1
        obtain ⟨M2, u, c2, u2, o2, f2⟩ := CopyBytes_O (ints_upto hbs u1) (by omega)
        obtain ⟨M3, s1, s2⟩ := h.putd p3 p4 p5 p6 p7 u2 o2 f2 (by rw [ints_length hbs]; omega) (by omega)
        have hE5 := hE5 0 M1
        simp only [Option.bind_some, List.getElem?_cons_zero, List.getElem?_cons_succ, int?_int, AVal.bool?, AVal.ptr?, AVal.sl?, AVal.tup?, AVal.agg?, AVal.ifc?, AVal.fn?, AVal.str?, List.head?_cons, List.tail_cons, List.isEmpty_nil, cond_true, cond_false, Option.isNone_some, Option.isNone_none, Bool.not_true, Bool.not_false, decide_true, decide_false, beq_self_eq_true, bne_self_eq_false, Int.reduceBEq, Int.reduceBNe, Int.cast_ofNat_Int, h0, Int.toNat_natCast, h2, hp, l1', c2, s1] at hE5
        simp only [Option.bind_some, List.getElem?_cons_zero, List.getElem?_cons_succ, int?_int, AVal.bool?, AVal.ptr?, AVal.sl?, AVal.tup?, AVal.agg?, AVal.ifc?, AVal.fn?, AVal.str?, List.head?_cons, List.tail_cons, List.isEmpty_nil, cond_true, cond_false, Option.isNone_some, Option.isNone_none, Bool.not_true, Bool.not_false, decide_true, decide_false, beq_self_eq_true, bne_self_eq_false, Int.reduceBEq, Int.reduceBNe, Int.cast_ofNat_Int, h0, Int.toNat_natCast, h2, hp, Nat.add_zero, ldb, l0, p2, l1', hb, hws, hvr] at hE2
        obtain ⟨M', e, eu⟩ := six M3 _ _ _ _ _ _ (by show ix.2.1 + 1 ≤ i + 1; omega) s2
        exact ⟨M', hE.trans (hE2.trans (hE5.trans e)), eu⟩
theorem QueueOrder_C {M0 : Mem} {n : Int} {a1 : Option (Nat × Nat)} {l1 : Nat} {cq : Cap} (hv : QRows M0 a1 l1 cq) : ∃ M', C 9 [.int .i64 n, .sl a1 l1 cq] M0 = some (.bool true, M') ∧ M0.Upto M' := by
  have hE := p9_0_eq C prog.meth n a1 l1 cq M0
  obtain ⟨Ma, hawake⟩ := awake26_C
  obtain ⟨r, hr, cr⟩ := Bring_C (i := n) (n := 64) (M := Mem.empty) (by omega) (by omega)
  have hw : IntKind.wrap .i64 (1 + (r : Int)) = ((r + 1 : Nat) : Int) := by rw [wrap_i64 (by omega) (by omega)]; omega
  obtain ⟨M1, c1, u1, q1⟩ := QNew_C (n := r + 1) (M := M0) (by omega) (by omega)
  simp only [Option.bind_some, List.getElem?_cons_zero, List.getElem?_cons_succ, int?_int, AVal.bool?, AVal.ptr?, AVal.sl?, AVal.tup?, AVal.agg?, AVal.ifc?, AVal.fn?, AVal.str?, List.head?_cons, List.tail_cons, List.isEmpty_nil, cond_true, cond_false, Option.isNone_some, Option.isNone_none, Bool.not_true, Bool.not_false, decide_true, decide_false, beq_self_eq_true, bne_self_eq_false, Int.reduceBEq, Int.reduceBNe, Int.cast_ofNat_Int, hawake, cr, hw, c1] at hE
  have h : OS M0 M1 M0.n (r + 1) 0 [] [] (none, 0, .known 0) [] [] (none, 0, .known 0) [] [] := ⟨u1, q1, Pks.nil _, Row.nil _ _ _, Pks.nil _, Row.nil _ _ _, Pks.nil _, rfl, by simp, Nat.le_refl _, by simp [fpOf], by simp [fpOf], by simp⟩
  obtain ⟨M', e, eu⟩ := order_loop hv 150 0 M1 0 [] [] (none, 0, .known 0) [] [] (none, 0, .known 0) [] [] (by omega) (by simp) h
  exact ⟨M', c9 (hE.trans e), eu⟩
theorem QueueOrder_law : ∀ avs M, M.Whole → okL M.n avs → ShowsArgs M [(false, [.int .i64]), (false, [.sl 32 [.bool, .sl 1 [.int .u8]]])] avs → ∃ M', C 9 avs M = some (.bool true, M') := by
  intro avs M hM hok h
  simp only [ShowsArgs, ShowsArg] at h
  obtain ⟨v, _, rfl, ⟨t, ht, hv⟩, w, _, rfl, ⟨t', ht', hw⟩, rfl⟩ := h
  obtain rfl : t = .int .i64 := by simpa using ht.symm
  obtain rfl : t' = .sl 32 [.bool, .sl 1 [.int .u8]] := by simpa using ht'.symm
  simp only [Shows] at hv
  obtain ⟨n, rfl, hn⟩ := hv
  obtain ⟨a1, l1, c1, rfl, hl1⟩ := hw.form
  obtain ⟨M', q, _⟩ := QueueOrder_C (n := n) (QRows.of fun i hi => hw.row hi)
  exact ⟨M', q⟩
end Go.Proofs.Ytndolnehppadnaa.M
