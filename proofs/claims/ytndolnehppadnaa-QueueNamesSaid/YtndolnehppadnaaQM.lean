/- QueuePlays, QueueOrder: joined. -/
import Derived.Test.YtndolnehppadnaaQL
set_option linter.unusedVariables false
set_option linter.unusedSimpArgs false
set_option linter.unnecessarySimpa false
set_option maxRecDepth 100000
namespace Go.Proofs.Ytndolnehppadnaa.M
open Go.Abs

theorem QNew_C {n : Nat} {M : Mem} (h1 : 1 ≤ n) (h2 : n ≤ 64) : ∃ M', C 27 [.int .i64 (n : Int)] M = some (.tup [.ptr (some (M.n, 0)), .int .i64 0], M') ∧ M.Upto M' ∧ IsQ M' M.n n 0 [] := by
  have hE := p27_0_eq C prog.meth n M
  have g1 : ¬ ((n : Int) < 1) := by omega
  have g2 : ¬ ((n : Int) > 64) := by omega
  simp only [g1, g2, decide_false, cond_false] at hE
  rw [p27_1_eq] at hE
  exact ⟨_, c27 hE, Mem.Upto.alloc _ _, ⟨⟨_, get_alloc_self _ _, rfl, fun i h => by simp at h, rfl, rfl, rfl⟩, by omega, by simp, h2, h1⟩⟩
theorem QNew0_C {n : Int} {M : Mem} (h : n < 1 ∨ n > 64) : C 27 [.int .i64 n] M = some (.tup [.ptr none, .int .i64 2], M) := by
  have hE := p27_0_eq C prog.meth n M
  by_cases g1 : n < 1
  · simp only [g1, decide_true, cond_true] at hE; exact c27 hE
  · have g2 : n > 64 := by omega
    simp only [g1, g2, decide_true, decide_false, cond_true, cond_false] at hE; exact c27 hE
theorem RQNew_C {n : Nat} {M : Mem} (h1 : 1 ≤ n) (h2 : n ≤ 64) : ∃ M', C 28 [.int .i64 (n : Int)] M = some (.tup [.ptr (some (M.n, 0)), .int .i64 0], M') ∧ M.Upto M' ∧ IsRQ M' [M.n] M.n n [] := by
  have hE := p28_0_eq C prog.meth n M
  have g1 : ¬ ((n : Int) < 1) := by omega
  have g2 : ¬ ((n : Int) > 64) := by omega
  simp only [g1, g2, decide_false, cond_false] at hE
  rw [p28_1_eq] at hE
  exact ⟨_, c28 hE, Mem.Upto.alloc _ _, ⟨none, 0, .known 0, get_alloc_self _ _, Tail.nil _ _ _, rfl, by simp [fpOf]⟩⟩
theorem RQNew0_C {n : Int} {M : Mem} (h : n < 1 ∨ n > 64) : C 28 [.int .i64 n] M = some (.tup [.ptr none, .int .i64 2], M) := by
  have hE := p28_0_eq C prog.meth n M
  by_cases g1 : n < 1
  · simp only [g1, decide_true, cond_true] at hE; exact c28 hE
  · have g2 : n > 64 := by omega
    simp only [g1, g2, decide_true, decide_false, cond_true, cond_false] at hE; exact c28 hE

/-- Rows of calls, whichever memory the bytes lie in. -/
def QRows (M0 : Mem) (a1 : Option (Nat × Nat)) (l1 : Nat) (cq : Cap) : Prop := ∀ i, i < l1 → ∃ p bk ba bl bc bs, slPtr a1 cq = some p ∧ M0.ints .u8 ba bl bc = some bs ∧ bl * 1 ≤ reachBytes ∧ (∀ x ∈ bs, (Lit.int .u8 x).wf = true) ∧
  ∀ M, M0.Upto M → ∀ f, f < 2 → M.ld p.1 (p.2 + (i * 2 + f)) = [AVal.bool bk, AVal.sl ba bl bc][f]?
theorem QRows.of {M0 : Mem} {a1 : Option (Nat × Nat)} {l1 : Nat} {cq : Cap} (hv : ArgRows M0 [.bool, .sl 1 [.int .u8]] a1 l1 cq) : QRows M0 a1 l1 cq := by
  intro i hi
  obtain ⟨p, xs, hp, hpn, hs, hld⟩ := hv i hi
  simp only [ShowsR] at hs
  obtain ⟨v0, w0, rfl, hb0, v1, w1, rfl, hb1, rfl⟩ := hs
  simp only [Shows] at hb0
  obtain ⟨bk, rfl⟩ := hb0
  obtain ⟨ba, bl, bc, bs, rfl, hbs, hbl, hbw⟩ := hb1.ints
  exact ⟨p, bk, ba, bl, bc, bs, hp, hbs, hbl, hbw, fun M hu f hf => hld M hu f hf⟩
theorem QRows.mono {M0 M : Mem} {a1 : Option (Nat × Nat)} {l1 : Nat} {cq : Cap} (h : QRows M0 a1 l1 cq) (hu : M0.Upto M) : QRows M a1 l1 cq := fun i hi => by
  obtain ⟨p, bk, ba, bl, bc, bs, h1, h2, h3, h4, h5⟩ := h i hi
  exact ⟨p, bk, ba, bl, bc, bs, h1, ints_upto h2 hu, h3, h4, fun M' hu' => h5 M' (hu.trans hu')⟩
theorem plays_loop {M0 : Mem} {a1 : Option (Nat × Nat)} {l1 : Nat} {cq : Cap} {q m room : Nat} (hv : QRows M0 a1 l1 cq) :
    ∀ (d i : Nat) (M : Mem) (first : Nat) (fr : List Nat) (vs ws : List SlV) (pk : List (List Int)), i + d = 150 → QS M0 M q m room first fr vs ws pk →
      ∃ M', p8_2 C prog.meth a1 l1 cq (some (q, 0)) (some (m, 0)) i M = some (.bool true, M') ∧ M0.Upto M' := by
  obtain ⟨Ma, hawake⟩ := awake26_C
  intro d
  induction d with
  | zero =>
    intro i M first fr vs ws pk hi h
    have hE := p8_2_eq C prog.meth a1 l1 cq (some (q, 0)) (some (m, 0)) i M
    have h150 : ¬ ((i : Int) < 150) := by omega
    simp only [Option.bind_some, List.getElem?_cons_zero, List.getElem?_cons_succ, int?_int, AVal.bool?, AVal.ptr?, AVal.sl?, AVal.tup?, AVal.agg?, AVal.ifc?, AVal.fn?, AVal.str?, List.head?_cons, List.tail_cons, List.isEmpty_nil, cond_true, cond_false, Option.isNone_some, Option.isNone_none, Bool.not_true, Bool.not_false, decide_true, decide_false, beq_self_eq_true, bne_self_eq_false, Int.reduceBEq, Int.reduceBNe, Int.cast_ofNat_Int, h150, hawake] at hE
    exact ⟨M, by rw [hE]; cases decide ((i : Int) < (l1 : Int)) <;> rfl, h.up⟩
  | succ d ih =>
    intro i M first fr vs ws pk hi h
    have hE := p8_2_eq C prog.meth a1 l1 cq (some (q, 0)) (some (m, 0)) i M
    have h150 : ((i : Int) < 150) := by omega
    by_cases hl1 : (i : Int) < (l1 : Int)
    rotate_left
    · simp only [Option.bind_some, List.getElem?_cons_zero, List.getElem?_cons_succ, int?_int, AVal.bool?, AVal.ptr?, AVal.sl?, AVal.tup?, AVal.agg?, AVal.ifc?, AVal.fn?, AVal.str?, List.head?_cons, List.tail_cons, List.isEmpty_nil, cond_true, cond_false, Option.isNone_some, Option.isNone_none, Bool.not_true, Bool.not_false, decide_true, decide_false, beq_self_eq_true, bne_self_eq_false, Int.reduceBEq, Int.reduceBNe, Int.cast_ofNat_Int, hl1, hawake] at hE
      exact ⟨M, hE, h.up⟩
    simp only [h150, hl1, decide_true, cond_true] at hE
    have hwi : IntKind.wrap .i64 ((i : Int) + 1) = ((i + 1 : Nat) : Int) := by rw [wrap_i64 (by omega) (by omega)]; rfl
    -- what is shown
    have tail : ∀ (M : Mem) (first : Nat) (fr : List Nat) (vs ws : List SlV) (pk : List (List Int)), QS M0 M q m room first fr vs ws pk → ∃ M', p8_6 C prog.meth a1 l1 cq (some (q, 0)) (some (m, 0)) i M = some (.bool true, M') ∧ M0.Upto M' := by
      intro M first fr vs ws pk h
      have hE := p8_6_eq C prog.meth a1 l1 cq (some (q, 0)) (some (m, 0)) i M
      have hr := h.iq.h2
      have hr2 := h.iq.h3
      have lv := h.pv.length
      have lw := h.pw.length
      obtain ⟨M1, xa, xl, xc, us, c1, o1⟩ := All_C h.iq h.pv (fun v hv => h.sz v (by simp [hv]))
      have h1 := h.upto o1.up
      have c2 := QLen_C h1.iq
      have c3 := RLen_C h1.ir
      obtain ⟨M4, ya, yl, yc, ts, c4, o4⟩ := RAll_C h1.ir h1.pw (fun v hv => h.sz v (by simp [hv])) (by omega)
      have h4 := h1.upto o4.up
      have hlu := o1.len
      have hlx := o1.row.length
      have hus : ∀ v ∈ us, v.2.1 ≤ 2048 := fun v hv => by
        obtain ⟨k, hk, rfl⟩ := List.getElem_of_mem hv
        have e1 := (o1.own k hk (by omega)).1
        have e2 := ints_length (h.pv.get (i := k) (by omega))
        have e3 := h.sz (vs[k]'(by omega)) (by simp [List.getElem_mem])
        omega
      have c5 := EqRows_C (o1.row.upto encS1 (by omega) o4.up).sl o4.row.sl (o1.pks.upto o4.up) o4.pks (by omega) (fun v hv => by have := hus v hv; omega)
      have hlen : (vs.length : Int) = (ws.length : Int) := by omega
      have hlen2 : ((vs.length : Int) != (ws.length : Int)) = false := by rw [hlen]; exact bne_self_eq_false _
      simp only [Option.bind_some, List.getElem?_cons_zero, List.getElem?_cons_succ, int?_int, AVal.bool?, AVal.ptr?, AVal.sl?, AVal.tup?, AVal.agg?, AVal.ifc?, AVal.fn?, AVal.str?, List.head?_cons, List.tail_cons, List.isEmpty_nil, cond_true, cond_false, Option.isNone_some, Option.isNone_none, Bool.not_true, Bool.not_false, decide_true, decide_false, beq_self_eq_true, bne_self_eq_false, Int.reduceBEq, Int.reduceBNe, Int.cast_ofNat_Int, c1, c2, c3, hlen2, c4, c5] at hE
      rw [p8_8_eq] at hE
      obtain ⟨M5, t1, t2, t3⟩ := turn_outer (l1 := a1) (l2 := l1) (l3 := cq) (q' := some (q, 0)) (m' := some (m, 0)) (i0 := i) (xa := xa) (xl := xl) (xc := xc) (us := us) (by omega) hus (fun v hv o ho => (o1.sep v hv o ho).2) xl 0 M4 (by omega) (o1.row.upto encS1 (by omega) o4.up) (fun v hv => by
        obtain ⟨k, hk, rfl⟩ := List.getElem_of_mem hv
        exact ⟨_, (o1.own k hk (by omega)).upto o4.up⟩)
      have hnewU : ∀ o ∈ us.flatMap fpS, M.n ≤ o := fun o ho => by
        obtain ⟨v, hv, ho⟩ := List.mem_flatMap.1 ho
        exact (o1.sep v hv o ho).1
      have hup := h.up.1
      have h5 : QS M0 M5 q m room first fr vs ws pk := h4.but t3 (fun o ho => by have := hnewU o ho; omega) (fun o ho hx => by have := hnewU o hx; have := h.lt o ho; omega)
      have hE10 := p8_10_eq C prog.meth a1 l1 cq (some (q, 0)) (some (m, 0)) i xa xl xc xl M5
      obtain ⟨M6, xa6, xl6, xc6, us6, c6, o6⟩ := All_C h5.iq h5.pv (fun v hv => h.sz v (by simp [hv]))
      have h6 := h5.upto o6.up
      obtain ⟨M7, ya7, yl7, yc7, ts7, c7, o7⟩ := RAll_C h6.ir h6.pw (fun v hv => h.sz v (by simp [hv])) (by omega)
      have h7 := h6.upto o7.up
      have hlu6 := o6.len
      have hlx6 := o6.row.length
      have hus6 : ∀ v ∈ us6, v.2.1 < 2 ^ 62 := fun v hv => by
        obtain ⟨k, hk, rfl⟩ := List.getElem_of_mem hv
        have e1 := (o6.own k hk (by omega)).1
        have e2 := ints_length (h5.pv.get (i := k) (by omega))
        have e3 := h.sz (vs[k]'(by omega)) (by simp [List.getElem_mem])
        omega
      have c8 := EqRows_C (o6.row.upto encS1 (by omega) o7.up).sl o7.row.sl (o6.pks.upto o7.up) o7.pks (by omega) hus6
      have hnl : ¬ ((xl : Int) < (xl : Int)) := by omega
      simp only [Option.bind_some, List.getElem?_cons_zero, List.getElem?_cons_succ, int?_int, AVal.bool?, AVal.ptr?, AVal.sl?, AVal.tup?, AVal.agg?, AVal.ifc?, AVal.fn?, AVal.str?, List.head?_cons, List.tail_cons, List.isEmpty_nil, cond_true, cond_false, Option.isNone_some, Option.isNone_none, Bool.not_true, Bool.not_false, decide_true, decide_false, beq_self_eq_true, bne_self_eq_false, Int.reduceBEq, Int.reduceBNe, Int.cast_ofNat_Int, hnl, c6, c7, c8, hwi] at hE10
      obtain ⟨M', e1, e2⟩ := ih (i + 1) M7 first fr vs ws pk (by omega) h7
      exact ⟨M', hE.trans (t1.trans (hE10.trans e1)), e2⟩
    obtain ⟨p, bk, ba, bl, bc, bs, hp, hbs, hbl, hbw, hld⟩ := hv i (by omega)
    have ldb : M.ldB p.1 (p.2 + i * 2) = some bk := by
      have := hld M h.up 0 (by simp)
      simp only [List.length_cons, List.length_nil, Nat.zero_add, Nat.reduceAdd, Nat.add_zero, List.getElem?_cons_zero] at this
      unfold Mem.ldB; rw [this]; rfl
    have ldl : ∀ M', M0.Upto M' → M'.ld p.1 (p.2 + i * 2 + 1) = some (.sl ba bl bc) := fun M' hu => by rw [Nat.add_assoc]; simpa using hld M' hu 1 (by simp)
    have ldL : ∀ M', M0.Upto M' → M'.ldL p.1 (p.2 + i * 2 + 1) = some (ba, bl, bc) := fun M' hu => by unfold Mem.ldL; rw [ldl M' hu]; rfl
    have h0 : (0 : Int) ≤ (i : Int) := by omega
    have h2 : Nat.blt i l1 = true := Mem.blt_iff.2 (by omega)
    have hE3 := p8_3_eq C prog.meth a1 l1 cq (some (q, 0)) (some (m, 0)) i M
    simp only [Option.bind_some, List.getElem?_cons_zero, List.getElem?_cons_succ, int?_int, AVal.bool?, AVal.ptr?, AVal.sl?, AVal.tup?, AVal.agg?, AVal.ifc?, AVal.fn?, AVal.str?, List.head?_cons, List.tail_cons, List.isEmpty_nil, cond_true, cond_false, Option.isNone_some, Option.isNone_none, Bool.not_true, Bool.not_false, decide_true, decide_false, beq_self_eq_true, bne_self_eq_false, Int.reduceBEq, Int.reduceBNe, Int.cast_ofNat_Int, h0, Int.toNat_natCast, h2, hp, Nat.add_zero, ldb] at hE3
    have hup := h.up.1
    have lv := h.pv.length
    have lw := h.pw.length
    have hr := h.iq.h2
    have hr2 := h.iq.h3
    cases bk with
    | true =>
      rw [cond_true, p8_4_eq] at hE3
      cases vs with
      | nil =>
        obtain rfl : pk = [] := List.length_eq_zero_iff.1 (by simpa using lv.symm)
        obtain rfl : ws = [] := List.length_eq_zero_iff.1 (by simpa using lw)
        have c1 := Take0_C h.iq
        have c2 := RTake0_C h.ir
        have c3 := EqBytes_C (M := M) (a := none) (l := 0) (c := .known 0) (a' := none) (l' := 0) (c' := .known 0) (xs := []) (ys := []) rfl rfl (by omega)
        simp only [Option.bind_some, List.getElem?_cons_zero, List.getElem?_cons_succ, int?_int, AVal.bool?, AVal.ptr?, AVal.sl?, AVal.tup?, AVal.agg?, AVal.ifc?, AVal.fn?, AVal.str?, List.head?_cons, List.tail_cons, List.isEmpty_nil, cond_true, cond_false, Option.isNone_some, Option.isNone_none, Bool.not_true, Bool.not_false, decide_true, decide_false, beq_self_eq_true, bne_self_eq_false, Int.reduceBEq, Int.reduceBNe, Int.cast_ofNat_Int, c1, c2, c3] at hE3
        obtain ⟨M', e1, e2⟩ := tail M first fr [] [] [] h
        exact ⟨M', hE.trans (hE3.trans e1), e2⟩
      | cons v vs =>
        cases pk with
        | nil => simp at lv
        | cons b pk =>
          cases ws with
          | nil => simp at lw
          | cons w ws =>
            obtain ⟨M1, c1, q1, n1, b1⟩ := Take_C h.iq
            have hvb : M.bytesAt v = some b := h.pv.get (i := 0) (by simp)
            have hwb : M.bytesAt w = some b := h.pw.get (i := 0) (by simp)
            have sq : ∀ v' ∈ (v :: vs) ++ (w :: ws), ∀ o ∈ fpS v', M1.get o = M.get o := fun v' hv' o ho => by
              have hx := h.sep v' hv' o ho
              refine b1.2 o ?_ hx.1
              rcases List.mem_append.1 hv' with h1 | h1
              · exact h.pv.lt v' h1 o ho
              · exact h.pw.lt v' h1 o ho
            have ir1 : IsRQ M1 fr m room (w :: ws) := h.ir.same (by omega) (fun o ho => b1.2 o (h.ir.lt o ho) (fun e => h.nq.2 (by subst e; exact ho)))
            obtain ⟨M2, fr2, c2, r2, n2, b2, f2⟩ := RTake_C ir1
            have hml : m ∈ fr := by obtain ⟨_, _, _, _, _, hfr, _⟩ := h.ir.ex; rw [hfr]; simp
            have sm : ∀ v' ∈ (v :: vs) ++ (w :: ws), ∀ o ∈ fpS v', M2.get o = M.get o := fun v' hv' o ho => by
              have hx := h.sep v' hv' o ho
              rw [b2.2 o ?_ (fun e => hx.2 (by subst e; exact hml)), sq v' hv' o ho]
              rcases List.mem_append.1 hv' with h1 | h1
              · rw [n1]; exact h.pv.lt v' h1 o ho
              · rw [n1]; exact h.pw.lt v' h1 o ho
            have c3 := EqBytes_C (M := M2) (a := v.1) (l := v.2.1) (c := v.2.2) (a' := w.1) (l' := w.2.1) (c' := w.2.2) (xs := b) (ys := b) ((bytesAt_same (sm v (by simp))).trans hvb) ((bytesAt_same (sm w (by simp))).trans hwb) (by have := h.sz v (by simp); omega)
            simp only [Option.bind_some, List.getElem?_cons_zero, List.getElem?_cons_succ, int?_int, AVal.bool?, AVal.ptr?, AVal.sl?, AVal.tup?, AVal.agg?, AVal.ifc?, AVal.fn?, AVal.str?, List.head?_cons, List.tail_cons, List.isEmpty_nil, cond_true, cond_false, Option.isNone_some, Option.isNone_none, Bool.not_true, Bool.not_false, decide_true, decide_false, beq_self_eq_true, bne_self_eq_false, Int.reduceBEq, Int.reduceBNe, Int.cast_ofNat_Int, c1, c2, c3] at hE3
            have hqm : q ≠ m := fun e => h.nq.2 (by rw [e]; exact hml)
            have hM2 : M0.Upto M2 := ⟨by omega, fun o ho => by rw [b2.2 o (by omega) (fun e => by have := h.nf m hml; omega), b1.2 o (by omega) (fun e => by have := h.nq.1; omega), h.up.2 o ho]⟩
            have hq2 : QS M0 M2 q m room ((first + 1) % 64) fr2 vs ws pk := by
              refine ⟨hM2, q1.same (b2.2 q (by rw [n1]; exact h.iq.lt) hqm), r2, (h.pv.drop 1).same (fun v' hv' => sm v' (by simp at hv'; simp [hv'])), (h.pw.drop 1).same (fun v' hv' => sm v' (by simp at hv'; simp [hv'])), fun v' hv' => h.sz v' (by
                rcases List.mem_append.1 hv' with h1 | h1 <;> simp [h1]), ⟨h.nq.1, fun hx => h.nq.2 (f2 q hx)⟩, fun o ho => h.nf o (f2 o ho), fun v' hv' o ho => ?_⟩
              have hx := h.sep v' (by rcases List.mem_append.1 hv' with h1 | h1 <;> simp [h1]) o ho
              exact ⟨hx.1, fun hf => hx.2 (f2 o hf)⟩
            obtain ⟨M', e1, e2⟩ := tail M2 _ _ _ _ _ hq2
            exact ⟨M', hE.trans (hE3.trans e1), e2⟩
    | false =>
      rw [cond_false, p8_5_eq] at hE3
      obtain ⟨M1, v1, c1, u1, o1, f1⟩ := CopyBytes_O (ints_upto hbs h.up) (by simp [reachBytes] at hbl; omega)
      have h1 := h.upto u1
      have n1 := u1.1
      have hvl : v1.2.1 = bl := by rw [← o1.1, ints_length hbs]
      have st1 : M1.still p.1 (p.2 + i * 2 + 1) [.sl ba bl bc] = true := still1 (ldl M1 h1.up)
      -- behind both puts
      have done : ∀ (M3 : Mem) (first : Nat) (fr : List Nat) (vs ws : List SlV) (pk : List (List Int)), QS M0 M3 q m room first fr vs ws pk → Own1 M3 v1 bs → (∀ o ∈ fpS v1, o ∉ QS.fp q fr vs ws) →
          M3.ldL p.1 (p.2 + i * 2 + 1) = some (ba, bl, bc) ∧ C 16 [.sl v1.1 v1.2.1 v1.2.2, .sl ba bl bc] M3 = some (.bool (decide (bs = bs)), M3) ∧ ∃ M', p8_7 C prog.meth a1 l1 cq (some (q, 0)) (some (m, 0)) i v1.1 v1.2.1 v1.2.2 M3 = some (.bool true, M') ∧ M0.Upto M' := by
        intro M3 first fr vs ws pk h3 o3 hs3
        have hbl' : bl ≤ 2 ^ 47 := by simp [reachBytes] at hbl; omega
        have c4 := EqBytes_C (M := M3) (a := v1.1) (l := v1.2.1) (c := v1.2.2) (a' := ba) (l' := bl) (c' := bc) (xs := bs) (ys := bs) o3.bytes (ints_upto hbs h3.up) (by omega)
        obtain ⟨M4, t1, t2, t3⟩ := turn_loop (l1 := a1) (l2 := l1) (l3 := cq) (q' := some (q, 0)) (m' := some (m, 0)) (i0 := i) (v := v1) (by omega) v1.2.1 0 M3 bs (by omega) o3
        obtain ⟨M', e1, e2⟩ := tail M4 first fr vs ws pk (h3.but t3 (fun o ho => by have := f1 o ho; omega) (fun o ho hx => hs3 o hx ho))
        refine ⟨ldL M3 h3.up, c4, M', ?_, e2⟩
        rw [p8_7_eq]
        exact t1.trans e1
      have hv1 : ∀ o ∈ fpS v1, M.n ≤ o ∧ o < M1.n := fun o ho => ⟨f1 o ho, o1.lt o ho⟩
      have hold : ∀ o ∈ QS.fp q fr vs ws, o < M.n := h.lt
      have l2 := ldL M h.up
      have l1' := ldL M1 h1.up
      rcases Put_C h1.iq o1.bytes with ⟨p1, p2⟩ | ⟨p1, p0, p2⟩ | ⟨p1, p0, M2, v, p2, p3, p4, p5, p6, p7⟩
      · rcases RPut_C h1.ir (ints_upto hbs h1.up) (by omega) with ⟨r1, r2⟩ | ⟨r1, r0, r2⟩ | ⟨r1, r0, M3, w, fr', r2, r3, r4, r5, r6, r7, r8⟩
        · obtain ⟨d1, d2, M', d3, d4⟩ := done M1 first fr vs ws pk h1 o1 (fun o ho hx => by have := hv1 o ho; have := hold o hx; omega)
          simp only [Option.bind_some, List.getElem?_cons_zero, List.getElem?_cons_succ, int?_int, AVal.bool?, AVal.ptr?, AVal.sl?, AVal.tup?, AVal.agg?, AVal.ifc?, AVal.fn?, AVal.str?, List.head?_cons, List.tail_cons, List.isEmpty_nil, cond_true, cond_false, Option.isNone_some, Option.isNone_none, Bool.not_true, Bool.not_false, decide_true, decide_false, beq_self_eq_true, bne_self_eq_false, Int.reduceBEq, Int.reduceBNe, Int.cast_ofNat_Int, h0, Int.toNat_natCast, h2, hp, l2, c1, p2, l1', r2, d2, st1] at hE3
          exact ⟨M', hE.trans (hE3.trans d3), d4⟩
        · omega
        · omega
      · rcases RPut_C h1.ir (ints_upto hbs h1.up) (by omega) with ⟨r1, r2⟩ | ⟨r1, r0, r2⟩ | ⟨r1, r0, M3, w, fr', r2, r3, r4, r5, r6, r7, r8⟩
        · omega
        · obtain ⟨d1, d2, M', d3, d4⟩ := done M1 first fr vs ws pk h1 o1 (fun o ho hx => by have := hv1 o ho; have := hold o hx; omega)
          simp only [Option.bind_some, List.getElem?_cons_zero, List.getElem?_cons_succ, int?_int, AVal.bool?, AVal.ptr?, AVal.sl?, AVal.tup?, AVal.agg?, AVal.ifc?, AVal.fn?, AVal.str?, List.head?_cons, List.tail_cons, List.isEmpty_nil, cond_true, cond_false, Option.isNone_some, Option.isNone_none, Bool.not_true, Bool.not_false, decide_true, decide_false, beq_self_eq_true, bne_self_eq_false, Int.reduceBEq, Int.reduceBNe, Int.cast_ofNat_Int, h0, Int.toNat_natCast, h2, hp, l2, c1, p2, l1', r2, d2, st1] at hE3
          exact ⟨M', hE.trans (hE3.trans d3), d4⟩
        · omega
      · have hqn := h.nq
        have hql := h1.iq.lt
        have hfl := h1.ir.lt
        have hu2 : M0.Upto M2 := ⟨by omega, fun o ho => by rw [p5.2 o (by omega) (by omega), h1.up.2 o ho]⟩
        have ir2 : IsRQ M2 fr m room ws := h1.ir.same p4 (fun o ho => p5.2 o (hfl o ho) (fun e => hqn.2 (by subst e; exact ho)))
        rcases RPut_C ir2 (ints_upto hbs hu2) (by omega) with ⟨r1, r2⟩ | ⟨r1, r0, r2⟩ | ⟨r1, r0, M3, w, fr', r2, r3, r4, r5, r6, r7, r8⟩
        · omega
        · omega
        · have hu3 : M0.Upto M3 := ⟨by omega, fun o ho => by rw [r5.2 o (by omega) (fun hx => by have := h.nf o hx; omega), hu2.2 o ho]⟩
          have k3 : ∀ o, o < M1.n → o ≠ q → o ∉ fr → M3.get o = M1.get o := fun o ho hq hf => by rw [r5.2 o (by omega) hf, p5.2 o ho hq]
          have hf' : ∀ o ∈ fr', o ∈ fr ∨ M2.n ≤ o := r6
          have hvl2 := p6.1
          have hwl2 := r7.1
          have hbl2 := o1.1
          have hvo := p6.lt
          have hov : ∀ o ∈ fpS v, M3.get o = M2.get o := fun o ho => r5.2 o (hvo o ho) (fun hx => by have := hfl o hx; have := p7 o ho; omega)
          have kv : ∀ v' ∈ vs ++ ws, ∀ o ∈ fpS v', M3.get o = M1.get o := fun v' hv' o ho => by
            have hx := h1.sep v' hv' o ho
            refine k3 o ?_ hx.1 hx.2
            rcases List.mem_append.1 hv' with h5 | h5
            · exact h1.pv.lt v' h5 o ho
            · exact h1.pw.lt v' h5 o ho
          have old : ∀ v' ∈ vs ++ ws, ∀ o ∈ fpS v', o ≠ q ∧ o ∉ fr' := fun v' hv' o ho => by
            have hx := h1.sep v' hv' o ho
            have hlt : o < M1.n := by
              rcases List.mem_append.1 hv' with h5 | h5
              · exact h1.pv.lt v' h5 o ho
              · exact h1.pw.lt v' h5 o ho
            refine ⟨hx.1, fun hf => ?_⟩
            rcases hf' o hf with h5 | h5
            · exact hx.2 h5
            · omega
          have hq3 : QS M0 M3 q m room first fr' (vs ++ [v]) (ws ++ [w]) (pk ++ [bs]) := by
            refine ⟨hu3, p3.same (r5.2 q (by omega) hqn.2), r3, (h1.pv.same (fun v' hv' => kv v' (by simp [hv']))).app (Pks.one (p6.same hov).bytes), (h1.pw.same (fun v' hv' => kv v' (by simp [hv']))).app (Pks.one r7.bytes), fun v' hv' => ?_, ⟨hqn.1, fun hf => ?_⟩, fun o ho => ?_, fun v' hv' o ho => ?_⟩
            · simp only [List.mem_append, List.mem_singleton] at hv'
              rcases hv' with (h5 | rfl) | (h5 | rfl)
              · exact h.sz v' (by simp [h5])
              · omega
              · exact h.sz v' (by simp [h5])
              · omega
            · rcases hf' q hf with h5 | h5
              · exact hqn.2 h5
              · omega
            · rcases hf' o ho with h5 | h5
              · exact h.nf o h5
              · omega
            · simp only [List.mem_append, List.mem_singleton] at hv'
              rcases hv' with (h5 | rfl) | (h5 | rfl)
              · exact old v' (by simp [h5]) o ho
              · have e1 := p7 o ho
                refine ⟨by omega, fun hf => ?_⟩
                rcases hf' o hf with h5 | h5
                · have := hfl o h5; omega
                · have := hvo o ho; omega
              · exact old v' (by simp [h5]) o ho
              · have e1 := r8 o ho
                exact ⟨by omega, e1.2⟩
          have ov1 : Own1 M3 v1 bs := o1.same (fun o ho => k3 o (hv1 o ho).2 (by have := hv1 o ho; have := h.iq.lt; omega) (fun hx => by have := hv1 o ho; have := h.ir.lt o hx; omega))
          obtain ⟨d1, d2, M', d3, d4⟩ := done M3 first fr' (vs ++ [v]) (ws ++ [w]) (pk ++ [bs]) hq3 ov1 (fun o ho hx => by
            have e1 := hv1 o ho
            simp only [QS.fp, List.mem_cons, List.mem_append, List.mem_flatMap, List.not_mem_nil, or_false] at hx
            rcases hx with rfl | hx | ⟨v', (hv' | rfl) | (hv' | rfl), hx⟩
            · have := h.iq.lt; omega
            · rcases hf' o hx with h5 | h5
              · have := h.ir.lt o h5; omega
              · omega
            · have := h.pv.lt v' hv' o hx; omega
            · have := p7 o hx; omega
            · have := h.pw.lt v' hv' o hx; omega
            · have := (r8 o hx).1; omega)
          have l3' := ldL M2 hu2
          simp only [Option.bind_some, List.getElem?_cons_zero, List.getElem?_cons_succ, int?_int, AVal.bool?, AVal.ptr?, AVal.sl?, AVal.tup?, AVal.agg?, AVal.ifc?, AVal.fn?, AVal.str?, List.head?_cons, List.tail_cons, List.isEmpty_nil, cond_true, cond_false, Option.isNone_some, Option.isNone_none, Bool.not_true, Bool.not_false, decide_true, decide_false, beq_self_eq_true, bne_self_eq_false, Int.reduceBEq, Int.reduceBNe, Int.cast_ofNat_Int, h0, Int.toNat_natCast, h2, hp, l2, c1, p2, l1', l3', d1, r2, d2, st1] at hE3
          exact ⟨M', hE.trans (hE3.trans d3), d4⟩
theorem QueuePlays_C {M0 : Mem} {n : Int} {a1 : Option (Nat × Nat)} {l1 : Nat} {cq : Cap} (hv : QRows M0 a1 l1 cq) : ∃ M', C 8 [.int .i64 n, .sl a1 l1 cq] M0 = some (.bool true, M') ∧ M0.Upto M' := by
  have hE := p8_0_eq C prog.meth n a1 l1 cq M0
  by_cases hn : n < 1 ∨ n > 64
  · obtain ⟨Ma, hawake⟩ := awake26_C
    have c1 := QNew0_C (M := M0) hn
    have c2 := RQNew0_C (M := M0) hn
    simp only [Option.bind_some, List.getElem?_cons_zero, List.getElem?_cons_succ, int?_int, AVal.bool?, AVal.ptr?, AVal.sl?, AVal.tup?, AVal.agg?, AVal.ifc?, AVal.fn?, AVal.str?, List.head?_cons, List.tail_cons, List.isEmpty_nil, cond_true, cond_false, Option.isNone_some, Option.isNone_none, Bool.not_true, Bool.not_false, decide_true, decide_false, beq_self_eq_true, bne_self_eq_false, Int.reduceBEq, Int.reduceBNe, Int.cast_ofNat_Int, c1, c2] at hE
    have hE1 := p8_1_eq C prog.meth a1 l1 cq none none 2 M0
    simp only [Option.bind_some, List.getElem?_cons_zero, List.getElem?_cons_succ, int?_int, AVal.bool?, AVal.ptr?, AVal.sl?, AVal.tup?, AVal.agg?, AVal.ifc?, AVal.fn?, AVal.str?, List.head?_cons, List.tail_cons, List.isEmpty_nil, cond_true, cond_false, Option.isNone_some, Option.isNone_none, Bool.not_true, Bool.not_false, decide_true, decide_false, beq_self_eq_true, bne_self_eq_false, Int.reduceBEq, Int.reduceBNe, Int.cast_ofNat_Int, hawake] at hE1
    exact ⟨M0, c8 (hE.trans hE1), Mem.Upto.refl _⟩
  · obtain ⟨k, rfl⟩ : ∃ k : Nat, n = (k : Int) := ⟨n.toNat, by omega⟩
    obtain ⟨M1, c1, u1, q1⟩ := QNew_C (n := k) (M := M0) (by omega) (by omega)
    obtain ⟨M2, c2, u2, q2⟩ := RQNew_C (n := k) (M := M1) (by omega) (by omega)
    have ql := q1.lt
    simp only [Option.bind_some, List.getElem?_cons_zero, List.getElem?_cons_succ, int?_int, AVal.bool?, AVal.ptr?, AVal.sl?, AVal.tup?, AVal.agg?, AVal.ifc?, AVal.fn?, AVal.str?, List.head?_cons, List.tail_cons, List.isEmpty_nil, cond_true, cond_false, Option.isNone_some, Option.isNone_none, Bool.not_true, Bool.not_false, decide_true, decide_false, beq_self_eq_true, bne_self_eq_false, Int.reduceBEq, Int.reduceBNe, Int.cast_ofNat_Int, c1, c2] at hE
    have hE1 := p8_1_eq C prog.meth a1 l1 cq (some (M0.n, 0)) (some (M1.n, 0)) 0 M2
    simp only [Option.bind_some, List.getElem?_cons_zero, List.getElem?_cons_succ, int?_int, AVal.bool?, AVal.ptr?, AVal.sl?, AVal.tup?, AVal.agg?, AVal.ifc?, AVal.fn?, AVal.str?, List.head?_cons, List.tail_cons, List.isEmpty_nil, cond_true, cond_false, Option.isNone_some, Option.isNone_none, Bool.not_true, Bool.not_false, decide_true, decide_false, beq_self_eq_true, bne_self_eq_false, Int.reduceBEq, Int.reduceBNe, Int.cast_ofNat_Int] at hE1
    have h : QS M0 M2 M0.n M1.n k 0 [M1.n] [] [] [] := ⟨u1.trans u2, q1.same (u2.2 _ ql), q2, Pks.nil _, Pks.nil _, by simp, ⟨Nat.le_refl _, by simp; omega⟩, fun o ho => by simp at ho; have := u1.1; omega, by simp⟩
    obtain ⟨M', e1, e2⟩ := plays_loop hv 150 0 M2 0 [M1.n] [] [] [] (by omega) h
    exact ⟨M', c8 (hE.trans (hE1.trans e1)), e2⟩
theorem QueuePlays_law : ∀ avs M, M.Whole → okL M.n avs → ShowsArgs M [(false, [.int .i64]), (false, [.sl 32 [.bool, .sl 1 [.int .u8]]])] avs → ∃ M', C 8 avs M = some (.bool true, M') := by
  intro avs M hM hok h
  simp only [ShowsArgs, ShowsArg] at h
  obtain ⟨v, _, rfl, ⟨t, ht, hv⟩, w, _, rfl, ⟨t', ht', hw⟩, rfl⟩ := h
  obtain rfl : t = .int .i64 := by simpa using ht.symm
  obtain rfl : t' = .sl 32 [.bool, .sl 1 [.int .u8]] := by simpa using ht'.symm
  simp only [Shows] at hv
  obtain ⟨n, rfl, hn⟩ := hv
  obtain ⟨a1, l1, c1, rfl, hl1⟩ := hw.form
  obtain ⟨M', q, _⟩ := QueuePlays_C (n := n) (QRows.of fun i hi => hw.row hi)
  exact ⟨M', q⟩
end Go.Proofs.Ytndolnehppadnaa.M
