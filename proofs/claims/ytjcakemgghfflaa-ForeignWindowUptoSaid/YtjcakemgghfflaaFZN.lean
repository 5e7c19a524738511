/- Adversary.Run and Wild.Run on a window; Lend with a Wild. -/
import Derived.Test.YtjcakemgghfflaaFU
import Derived.Test.YtjcakemgghfflaaB3
set_option linter.unusedVariables false
set_option linter.unusedSimpArgs false
set_option linter.unnecessarySimpa false
set_option maxRecDepth 100000
namespace Go.Proofs.Ytjcakemgghfflaa.M
open Go.Abs Go.RowKit

section
variable {M0 M M' : Mem} {o : Nat} {ks : OKind} {P Q : List Int} {a : Option (Nat × Nat)} {n : Nat} {s : ScS}
theorem adv_write {bx dbx : Nat} {i at_ : Int} {dv : SlV} {b : List Int} (hat : -9223372036854775808 ≤ at_ ∧ at_ < 9223372036854775808) (hb47 : b.length ≤ 2 ^ 47) (hn48 : n < 2 ^ 48) (hdv : ∀ M3, Mem.But (· = o) M0 M3 → PSv M3 dv b) (hdo : M0.n ≤ dbx) (hao : 0 < n → ∀ p, a = some p → p.1 ≠ dbx) :
    ∀ (d k : Nat) (M : Mem) (s : ScS), k + d = b.length → WS M0 M o ks P Q a n s → M.get dbx = some ⟨[.int .u8 2, .int .i64 at_, .sl dv.1 dv.2.1 dv.2.2], .fixed⟩ →
    ∃ M', p74_3 C prog.meth a n (.known n) s.arg bx i dbx (k : Int) M = p74_1 C prog.meth a n (.known n) s.arg bx (IntKind.wrap .i64 (i + 1)) M' ∧ WS M0 M' o ks P Q a n (s.put (wrP s.win at_ k (b.drop k))) := by
  intro d
  induction d with
  | zero =>
    intro k M s hk h hg
    have hE := p74_3_eq C prog.meth a n (.known n) s.arg bx i dbx (k : Int) M
    have hbl := ints_length (PS.ints (hdv M h.but))
    have q : ¬ ((k : Int) < (dv.2.1 : Int)) := by omega
    simp only [ldL_at hg, Option.bind_some, List.getElem?_cons_zero, List.getElem?_cons_succ, int?_int, AVal.bool?, AVal.ptr?, AVal.sl?, AVal.tup?, AVal.agg?, AVal.ifc?, AVal.fn?, AVal.str?, List.head?_cons, List.tail_cons, List.isEmpty_nil, cond_true, cond_false, Option.isNone_some, Option.isNone_none, Bool.not_true, Bool.not_false, decide_true, decide_false, beq_self_eq_true, bne_self_eq_false, Int.reduceBEq, Int.reduceBNe, Int.cast_ofNat_Int, q] at hE
    rw [List.drop_eq_nil_of_le (by omega)]
    exact ⟨M, hE, by rw [show wrP s.win at_ k [] = s.win from rfl, put_self s h.fr]; exact h⟩
  | succ d ih =>
    intro k M s hk h hg
    have hE := p74_3_eq C prog.meth a n (.known n) s.arg bx i dbx (k : Int) M
    have hps := PS.ints (hdv M h.but)
    have hbl := ints_length hps
    have hwl := h.len
    have q : ((k : Int) < (dv.2.1 : Int)) := by omega
    have hw : IntKind.wrap .i64 ((k : Int) + 1) = ((k + 1 : Nat) : Int) := by rw [wrap_i64 (by omega) (by omega)]; rfl
    by_cases k1 : at_ ≤ (n : Int)
    rotate_left
    · simp only [ldL_at hg, ldI_at hg, Option.bind_some, List.getElem?_cons_zero, List.getElem?_cons_succ, int?_int, AVal.bool?, AVal.ptr?, AVal.sl?, AVal.tup?, AVal.agg?, AVal.ifc?, AVal.fn?, AVal.str?, List.head?_cons, List.tail_cons, List.isEmpty_nil, cond_true, cond_false, Option.isNone_some, Option.isNone_none, Bool.not_true, Bool.not_false, decide_true, decide_false, beq_self_eq_true, bne_self_eq_false, Int.reduceBEq, Int.reduceBNe, Int.cast_ofNat_Int, q, k1] at hE
      refine ⟨M, hE, ?_⟩
      rw [wrP_out _ _ _ (by omega), put_self s h.fr]; exact h
    simp only [ldL_at hg, ldI_at hg, Option.bind_some, List.getElem?_cons_zero, List.getElem?_cons_succ, int?_int, AVal.bool?, AVal.ptr?, AVal.sl?, AVal.tup?, AVal.agg?, AVal.ifc?, AVal.fn?, AVal.str?, List.head?_cons, List.tail_cons, List.isEmpty_nil, cond_true, cond_false, Option.isNone_some, Option.isNone_none, Bool.not_true, Bool.not_false, decide_true, decide_false, beq_self_eq_true, bne_self_eq_false, Int.reduceBEq, Int.reduceBNe, Int.cast_ofNat_Int, q, k1] at hE
    have hE4 := p74_4_eq C prog.meth a n (.known n) s.arg bx i dbx (k : Int) M
    have hw2 : IntKind.wrap .i64 (at_ + (k : Int)) = at_ + k := wrap_i64 (by omega) (by omega)
    have hdrop : b.drop k = b[k]'(by omega) :: b.drop (k + 1) := List.drop_eq_getElem_cons (by omega)
    rw [hdrop, wrP]
    by_cases hyes : 0 ≤ at_ + (k : Int) ∧ at_ + k < s.win.length ∧ at_ ≤ s.win.length
    · rw [if_pos hyes]
      obtain ⟨m, hm⟩ : ∃ m : Nat, at_ + (k : Int) = (m : Int) := ⟨(at_ + k).toNat, by omega⟩
      rw [hm, Int.toNat_natCast]
      have k2 : ((m : Int) ≥ 0) := by omega
      have k3 : ((m : Int) < (n : Int)) := by omega
      have c0 : (0 : Int) ≤ (k : Int) := by omega
      have c2 : Nat.blt k dv.2.1 = true := Mem.blt_iff.2 (by omega)
      have c3 : Nat.blt m n = true := Mem.blt_iff.2 (by omega)
      have c4 : (0 : Int) ≤ (m : Int) := by omega
      obtain ⟨p, hp, hv⟩ := (ints_iff.1 hps).2 k (by omega)
      rw [List.getElem?_eq_getElem (by omega)] at hv
      obtain ⟨o1, pre, post, kd, e1, e2, e3, e4⟩ := h.acc (by omega)
      have hsp : slPtr a (.known n) = some (o1, pre.length) := e1
      have e3' : M.get o1 = some ⟨((pre ++ s.win.take m) ++ ([s.win[m]'(by omega)] ++ (s.win.drop (m + 1) ++ post))).map (.int .u8), kd⟩ := by
        rw [e3]
        congr 3
        rw [List.append_assoc]
        congr 1
        rw [← List.append_assoc, ← List.append_assoc]
        congr 1
        rw [List.append_assoc, List.singleton_append, ← List.drop_eq_getElem_cons, List.take_append_drop]
      have hpl : (pre ++ s.win.take m).length = pre.length + m := by simp; omega
      obtain ⟨M3, st, g2, n2, b2⟩ : ∃ M3, M.st o1 (pre.length + m) [.int .u8 (b[k]'(by omega))] = some M3 ∧ M3.get o1 = some ⟨((pre ++ s.win.take m) ++ ([b[k]'(by omega)] ++ (s.win.drop (m + 1) ++ post))).map (.int .u8), kd⟩ ∧ M3.n = M.n ∧ Mem.But (· = o1) M M3 := by
        have st := part_put (ys := [b[k]'(by omega)]) e3' e2 rfl
        rw [hpl] at st
        exact ⟨_, st, get_put_self (Mem.get_lt e3), rfl, Mem.But.put _ _ _⟩
      have hw3 := hw2.trans hm
      simp only [ldL_at hg, ldI_at hg, Option.bind_some, List.getElem?_cons_zero, List.getElem?_cons_succ, int?_int, AVal.bool?, AVal.ptr?, AVal.sl?, AVal.tup?, AVal.agg?, AVal.ifc?, AVal.fn?, AVal.str?, List.head?_cons, List.tail_cons, List.isEmpty_nil, cond_true, cond_false, Option.isNone_some, Option.isNone_none, Bool.not_true, Bool.not_false, decide_true, decide_false, beq_self_eq_true, bne_self_eq_false, Int.reduceBEq, Int.reduceBNe, Int.cast_ofNat_Int, hw3, k2, k3, c0, c2, c3, c4, Int.toNat_natCast, Nat.mul_one, hp, hv, hsp, st, hw] at hE4
      have hset : s.win.set m (b[k]'(by omega)) = s.win.take m ++ ([b[k]'(by omega)] ++ s.win.drop (m + 1)) := by
        rw [List.set_eq_take_append_cons_drop, if_pos (by omega)]; rfl
      have h2 := e4 _ (s.win.set m (b[k]'(by omega))) (by rw [List.length_set]; exact hwl) (by rw [hset, g2]; simp only [List.append_assoc]) n2 b2
      obtain ⟨p1, p2, p3⟩ := put_same s (s.win.set m (b[k]'(by omega)))
      obtain ⟨M', t1, t2⟩ := ih (k + 1) _ _ (by omega) h2 (b2.get hg (fun e => hao (by omega) _ e1 e.symm))
      rw [p1] at t1
      rw [put_win s h.fr, put_put s h.fr] at t2
      exact ⟨M', hE.trans (hE4.trans t1), t2⟩
    · rw [if_neg hyes]
      have skip : p74_4 C prog.meth a n (.known n) s.arg bx i dbx (k : Int) M = p74_3 C prog.meth a n (.known n) s.arg bx i dbx ((k + 1 : Nat) : Int) M := by
        by_cases k2 : at_ + (k : Int) ≥ 0
        · have k3 : ¬ (at_ + (k : Int) < (n : Int)) := by omega
          simp only [ldI_at hg, Option.bind_some, List.getElem?_cons_zero, List.getElem?_cons_succ, int?_int, AVal.bool?, AVal.ptr?, AVal.sl?, AVal.tup?, AVal.agg?, AVal.ifc?, AVal.fn?, AVal.str?, List.head?_cons, List.tail_cons, List.isEmpty_nil, cond_true, cond_false, Option.isNone_some, Option.isNone_none, Bool.not_true, Bool.not_false, decide_true, decide_false, beq_self_eq_true, bne_self_eq_false, Int.reduceBEq, Int.reduceBNe, Int.cast_ofNat_Int, hw2, k2, k3, hw] at hE4
          exact hE4
        · simp only [ldI_at hg, Option.bind_some, List.getElem?_cons_zero, List.getElem?_cons_succ, int?_int, AVal.bool?, AVal.ptr?, AVal.sl?, AVal.tup?, AVal.agg?, AVal.ifc?, AVal.fn?, AVal.str?, List.head?_cons, List.tail_cons, List.isEmpty_nil, cond_true, cond_false, Option.isNone_some, Option.isNone_none, Bool.not_true, Bool.not_false, decide_true, decide_false, beq_self_eq_true, bne_self_eq_false, Int.reduceBEq, Int.reduceBNe, Int.cast_ofNat_Int, hw2, k2, hw] at hE4
          exact hE4
      obtain ⟨M', t1, t2⟩ := ih (k + 1) M s (by omega) h hg
      exact ⟨M', hE.trans (skip.trans t1), t2⟩
theorem adv_step {a1 : Option (Nat × Nat)} {l1 : Nat} {c1 : Cap} {L : List Deed} {bx : Nat} (hbx : M0.get bx = some ⟨[.sl a1 l1 c1], .fixed⟩) (hbo : bx ≠ o) (hd : DeedB PSv M0 o a1 l1 c1 L) (hok : ∀ d ∈ L, DeedOk d) {i : Nat} (hi : i < L.length) (hl : L.length < 2 ^ 40) (h : WS M0 M o ks P Q a n s) (hn : n + L[i].2.2.length ≤ 2 ^ 46) :
    ∃ M' a' n', p74_1 C prog.meth a n (.known n) s.arg bx i M = p74_1 C prog.meth a' n' (.known n') (s.deed L[i]).arg bx ((i + 1 : Nat) : Int) M' ∧ WS M0 M' o ks P Q a' n' (s.deed L[i]) := by
  have hE := p74_1_eq C prog.meth a n (.known n) s.arg bx i M
  obtain ⟨p, dv, M2, hp, l0, l1', l2, s2, u2, g2, hJ⟩ := deed_get hd hi h
  have hlen := hd.len
  have gb : M.get bx = some ⟨[.sl a1 l1 c1], .fixed⟩ := h.but.get hbx hbo
  have c1' : ((i : Int) < (l1 : Int)) := by omega
  have c0 : (0 : Int) ≤ (i : Int) := by omega
  have c2 : Nat.blt i l1 = true := Mem.blt_iff.2 (by omega)
  have hw : IntKind.wrap .i64 ((i : Int) + 1) = ((i + 1 : Nat) : Int) := by rw [wrap_i64 (by omega) (by omega)]; rfl
  have hk := hok _ (List.getElem_mem hi)
  have h2 := h.upto u2
  have hwl := h2.len
  simp only [Option.bind_some, List.getElem?_cons_zero, List.getElem?_cons_succ, int?_int, AVal.bool?, AVal.ptr?, AVal.sl?, AVal.tup?, AVal.agg?, AVal.ifc?, AVal.fn?, AVal.str?, List.head?_cons, List.tail_cons, List.isEmpty_nil, cond_true, cond_false, Option.isNone_some, Option.isNone_none, Bool.not_true, Bool.not_false, decide_true, decide_false, beq_self_eq_true, bne_self_eq_false, Int.reduceBEq, Int.reduceBNe, Int.cast_ofNat_Int, ldL_at gb, c1', c0, c2, Int.toNat_natCast, hp, l0, l1', l2, s2, ldI_at g2] at hE
  unfold ScS.deed
  generalize hb : L[i] = d at g2 hJ hk hn hE
  obtain ⟨k, at_, b⟩ := d
  simp only at g2 hJ hk hn hE ⊢
  have hJ2 := hJ M2 h2.but
  have hbl : b.length = dv.2.1 := ints_length (PS.ints hJ2)
  by_cases k1 : k = 1
  · subst k1
    unfold ScS.step
    rw [if_pos rfl]
    by_cases a0 : at_ ≥ 0
    · by_cases a2 : at_ < (n : Int)
      · rw [if_pos ⟨a0, by omega⟩]
        obtain ⟨m, rfl⟩ : ∃ m : Nat, at_ = (m : Int) := ⟨at_.toNat, by omega⟩
        obtain ⟨q, e1, e2⟩ := h2.rd (i := m) (by omega)
        have hm0 : (0 : Int) ≤ (m : Int) := by omega
        have hmb : Nat.blt m n = true := Mem.blt_iff.2 (by omega)
        have hsp : slPtr a (.known n) = some q := e1
        simp only [Option.bind_some, List.getElem?_cons_zero, List.getElem?_cons_succ, int?_int, AVal.bool?, AVal.ptr?, AVal.sl?, AVal.tup?, AVal.agg?, AVal.ifc?, AVal.fn?, AVal.str?, List.head?_cons, List.tail_cons, List.isEmpty_nil, cond_true, cond_false, Option.isNone_some, Option.isNone_none, Bool.not_true, Bool.not_false, decide_true, decide_false, beq_self_eq_true, bne_self_eq_false, Int.reduceBEq, Int.reduceBNe, Int.cast_ofNat_Int, a2, hm0, a0, hmb, Int.toNat_natCast, hsp, Nat.mul_one, e2, hw] at hE
        refine ⟨M2, a, n, hE, ?_⟩
        exact ⟨h2.but, h2.ol, h2.km, h2.sh, h2.len, h2.th, h2.mi, h2.fr⟩
      · rw [if_neg (fun q => a2 (by omega))]
        simp only [Option.bind_some, List.getElem?_cons_zero, List.getElem?_cons_succ, int?_int, AVal.bool?, AVal.ptr?, AVal.sl?, AVal.tup?, AVal.agg?, AVal.ifc?, AVal.fn?, AVal.str?, List.head?_cons, List.tail_cons, List.isEmpty_nil, cond_true, cond_false, Option.isNone_some, Option.isNone_none, Bool.not_true, Bool.not_false, decide_true, decide_false, beq_self_eq_true, bne_self_eq_false, Int.reduceBEq, Int.reduceBNe, Int.cast_ofNat_Int, a0, a2, hw] at hE
        exact ⟨M2, a, n, hE, h2⟩
    · rw [if_neg (fun q => a0 q.1)]
      simp only [Option.bind_some, List.getElem?_cons_zero, List.getElem?_cons_succ, int?_int, AVal.bool?, AVal.ptr?, AVal.sl?, AVal.tup?, AVal.agg?, AVal.ifc?, AVal.fn?, AVal.str?, List.head?_cons, List.tail_cons, List.isEmpty_nil, cond_true, cond_false, Option.isNone_some, Option.isNone_none, Bool.not_true, Bool.not_false, decide_true, decide_false, beq_self_eq_true, bne_self_eq_false, Int.reduceBEq, Int.reduceBNe, Int.cast_ofNat_Int, a0, hw] at hE
      exact ⟨M2, a, n, hE, h2⟩
  · have e1 : (k == 1) = false := by simpa using k1
    simp only [e1, cond_false] at hE
    by_cases k2 : k = 2
    · subst k2
      have e : s.step 2 at_ b = s.put (wrP s.win at_ 0 b) := by unfold ScS.step; rw [if_neg (by decide), if_pos rfl]
      obtain ⟨p1, p2, p3⟩ := put_same s (wrP s.win at_ 0 b)
      rw [e, p1]
      have hE2 := p74_2_eq C prog.meth a n (.known n) s.arg bx (i : Int) M.n M2
      simp only [beq_self_eq_true, cond_true] at hE
      obtain ⟨M', t1, t2⟩ := adv_write (bx := bx) (dbx := M.n) (i := (i : Int)) (at_ := at_) (dv := dv) (b := b) hk.2.1 hk.2.2.1 (by omega) hJ h.but.1 (fun h0 p hp e => by
        obtain ⟨o1, pre, post, kd, q1, q2, q3, _⟩ := h.acc h0
        rw [q1] at hp; cases hp
        have := Mem.get_lt q3
        simp only at e; omega) b.length 0 M2 s (by omega) h2 g2
      rw [List.drop_zero] at t2
      rw [hw] at t1
      exact ⟨M', a, n, hE.trans (hE2.trans t1), t2⟩
    · have e2 : (k == 2) = false := by simpa using k2
      simp only [e2, cond_false] at hE
      by_cases k3 : k = 3
      · subst k3
        unfold ScS.step
        rw [if_neg (by decide), if_neg (by decide), if_pos rfl]
        by_cases a0 : at_ ≥ 0
        · by_cases a2 : at_ ≤ (n : Int)
          · rw [if_pos ⟨a0, by omega⟩]
            obtain ⟨m, rfl⟩ : ∃ m : Nat, at_ = (m : Int) := ⟨at_.toNat, by omega⟩
            rw [Int.toNat_natCast]
            simp only [Option.bind_some, List.getElem?_cons_zero, List.getElem?_cons_succ, int?_int, AVal.bool?, AVal.ptr?, AVal.sl?, AVal.tup?, AVal.agg?, AVal.ifc?, AVal.fn?, AVal.str?, List.head?_cons, List.tail_cons, List.isEmpty_nil, cond_true, cond_false, Option.isNone_some, Option.isNone_none, Bool.not_true, Bool.not_false, decide_true, decide_false, beq_self_eq_true, bne_self_eq_false, Int.reduceBEq, Int.reduceBNe, Int.cast_ofNat_Int, a0, a2, hw] at hE
            rw [slcK_known (by omega) (Nat.le_refl n)] at hE
            have hc := h2.cut (i := m) (by omega)
            refine ⟨M2, _, n - m, hE.trans ?_, hc⟩
            cases s.mine <;> rfl
          · rw [if_neg (fun q => a2 (by omega))]
            simp only [Option.bind_some, List.getElem?_cons_zero, List.getElem?_cons_succ, int?_int, AVal.bool?, AVal.ptr?, AVal.sl?, AVal.tup?, AVal.agg?, AVal.ifc?, AVal.fn?, AVal.str?, List.head?_cons, List.tail_cons, List.isEmpty_nil, cond_true, cond_false, Option.isNone_some, Option.isNone_none, Bool.not_true, Bool.not_false, decide_true, decide_false, beq_self_eq_true, bne_self_eq_false, Int.reduceBEq, Int.reduceBNe, Int.cast_ofNat_Int, a0, a2, hw] at hE
            exact ⟨M2, a, n, hE, h2⟩
        · rw [if_neg (fun q => a0 q.1)]
          simp only [Option.bind_some, List.getElem?_cons_zero, List.getElem?_cons_succ, int?_int, AVal.bool?, AVal.ptr?, AVal.sl?, AVal.tup?, AVal.agg?, AVal.ifc?, AVal.fn?, AVal.str?, List.head?_cons, List.tail_cons, List.isEmpty_nil, cond_true, cond_false, Option.isNone_some, Option.isNone_none, Bool.not_true, Bool.not_false, decide_true, decide_false, beq_self_eq_true, bne_self_eq_false, Int.reduceBEq, Int.reduceBNe, Int.cast_ofNat_Int, a0, hw] at hE
          exact ⟨M2, a, n, hE, h2⟩
      · have e3 : (k == 3) = false := by simpa using k3
        simp only [e3, cond_false] at hE
        by_cases k4 : k = 4
        · subst k4
          unfold ScS.step
          rw [if_neg (by decide), if_neg (by decide), if_neg (by decide), if_pos rfl]
          by_cases hb0 : 0 < b.length
          · rw [if_pos hb0]
            have c4 : ((dv.2.1 : Nat) : Int) > 0 := by omega
            obtain ⟨M3, f1, f2, f3, f4⟩ := h2.app (b := b) (PS.ints hJ2) hb0 (by omega)
            simp only [Option.bind_some, List.getElem?_cons_zero, List.getElem?_cons_succ, int?_int, AVal.bool?, AVal.ptr?, AVal.sl?, AVal.tup?, AVal.agg?, AVal.ifc?, AVal.fn?, AVal.str?, List.head?_cons, List.tail_cons, List.isEmpty_nil, cond_true, cond_false, Option.isNone_some, Option.isNone_none, Bool.not_true, Bool.not_false, decide_true, decide_false, beq_self_eq_true, bne_self_eq_false, Int.reduceBEq, Int.reduceBNe, Int.cast_ofNat_Int, ldL_at g2] at hE
            rw [f1] at hE
            simp only [ldL_at (f2.get g2), Option.bind_some, List.getElem?_cons_zero, List.getElem?_cons_succ, int?_int, AVal.bool?, AVal.ptr?, AVal.sl?, AVal.tup?, AVal.agg?, AVal.ifc?, AVal.fn?, AVal.str?, List.head?_cons, List.tail_cons, List.isEmpty_nil, cond_true, cond_false, Option.isNone_some, Option.isNone_none, Bool.not_true, Bool.not_false, decide_true, decide_false, beq_self_eq_true, bne_self_eq_false, Int.reduceBEq, Int.reduceBNe, Int.cast_ofNat_Int, c4] at hE
            rw [clipU f3 (by simp; omega), hw] at hE
            exact ⟨M3, _, _, hE, f4⟩
          · rw [if_neg hb0]
            have c4 : ¬ (((dv.2.1 : Nat) : Int) > 0) := by omega
            have z : dv.2.1 = 0 := by omega
            simp only [Option.bind_some, List.getElem?_cons_zero, List.getElem?_cons_succ, int?_int, AVal.bool?, AVal.ptr?, AVal.sl?, AVal.tup?, AVal.agg?, AVal.ifc?, AVal.fn?, AVal.str?, List.head?_cons, List.tail_cons, List.isEmpty_nil, cond_true, cond_false, Option.isNone_some, Option.isNone_none, Bool.not_true, Bool.not_false, decide_true, decide_false, beq_self_eq_true, bne_self_eq_false, Int.reduceBEq, Int.reduceBNe, Int.cast_ofNat_Int, ldL_at g2] at hE
            rw [z, appK_none (Nat.le_refl n)] at hE
            simp only [ldL_at g2, Option.bind_some, List.getElem?_cons_zero, List.getElem?_cons_succ, int?_int, AVal.bool?, AVal.ptr?, AVal.sl?, AVal.tup?, AVal.agg?, AVal.ifc?, AVal.fn?, AVal.str?, List.head?_cons, List.tail_cons, List.isEmpty_nil, cond_true, cond_false, Option.isNone_some, Option.isNone_none, Bool.not_true, Bool.not_false, decide_true, decide_false, beq_self_eq_true, bne_self_eq_false, Int.reduceBEq, Int.reduceBNe, Int.cast_ofNat_Int, c4, hw] at hE
            exact ⟨M2, a, n, hE, h2⟩
        · have e4 : (k == 4) = false := by simpa using k4
          simp only [Option.bind_some, List.getElem?_cons_zero, List.getElem?_cons_succ, int?_int, AVal.bool?, AVal.ptr?, AVal.sl?, AVal.tup?, AVal.agg?, AVal.ifc?, AVal.fn?, AVal.str?, List.head?_cons, List.tail_cons, List.isEmpty_nil, cond_true, cond_false, Option.isNone_some, Option.isNone_none, Bool.not_true, Bool.not_false, decide_true, decide_false, beq_self_eq_true, bne_self_eq_false, Int.reduceBEq, Int.reduceBNe, Int.cast_ofNat_Int, e4, hw] at hE
          have e : s.step k at_ b = s := by
            unfold ScS.step; rw [if_neg k1, if_neg k2, if_neg k3, if_neg k4]
          rw [e]
          exact ⟨M2, a, n, hE, h2⟩
theorem adv_loop {a1 : Option (Nat × Nat)} {l1 : Nat} {c1 : Cap} {L : List Deed} {bx : Nat} (hbx : M0.get bx = some ⟨[.sl a1 l1 c1], .fixed⟩) (hbo : bx ≠ o) (hd : DeedB PSv M0 o a1 l1 c1 L) (hok : ∀ d ∈ L, DeedOk d) (hl : L.length ≤ 1048576) (hb : ∀ d ∈ L, d.2.2.length ≤ 1048576) :
    ∀ (d i : Nat) (M : Mem) (a : Option (Nat × Nat)) (n : Nat) (s : ScS), i + d = L.length → s.shown.length ≤ 2 ^ 44 → s.own.length ≤ 2 ^ 44 + i * 1048576 → WS M0 M o ks P Q a n s →
    ∃ M' a' n', p74_1 C prog.meth a n (.known n) s.arg bx i M = some (.int .u64 ((L.drop i).foldl ScS.deed s).arg, M') ∧ WS M0 M' o ks P Q a' n' ((L.drop i).foldl ScS.deed s) := by
  intro d
  induction d with
  | zero =>
    intro i M a n s hi h1 h2 h
    have hE := p74_1_eq C prog.meth a n (.known n) s.arg bx i M
    have hlen := hd.len
    have gb : M.get bx = some ⟨[.sl a1 l1 c1], .fixed⟩ := h.but.get hbx hbo
    have c1 : ¬ ((i : Int) < (l1 : Int)) := by omega
    simp only [ldL_at gb, Option.bind_some, List.getElem?_cons_zero, List.getElem?_cons_succ, int?_int, AVal.bool?, AVal.ptr?, AVal.sl?, AVal.tup?, AVal.agg?, AVal.ifc?, AVal.fn?, AVal.str?, List.head?_cons, List.tail_cons, List.isEmpty_nil, cond_true, cond_false, Option.isNone_some, Option.isNone_none, Bool.not_true, Bool.not_false, decide_true, decide_false, beq_self_eq_true, bne_self_eq_false, Int.reduceBEq, Int.reduceBNe, Int.cast_ofNat_Int, c1] at hE
    rw [List.drop_eq_nil_of_le (by omega)]
    exact ⟨M, a, n, hE, h⟩
  | succ d ih =>
    intro i M a n s hi h1 h2 h
    have hbi := hb _ (List.getElem_mem (show i < L.length by omega))
    have hi2 : i * 1048576 ≤ 1048576 * 1048576 := Nat.mul_le_mul_right _ (by omega)
    have hwl := win_le s (N := 2 ^ 44 + i * 1048576) (by omega) h2
    rw [h.len] at hwl
    obtain ⟨M1, a', n', q1, h3⟩ := adv_step hbx hbo hd hok (show i < L.length by omega) (by omega) h (by omega)
    obtain ⟨e1, e2⟩ := s.step_own h.fr L[i].1 L[i].2.1 L[i].2.2 (N := 2 ^ 44 + i * 1048576) (B := 1048576) (by omega) h2 hbi
    obtain ⟨M', a2, n2, q2, h4⟩ := ih (i + 1) M1 a' n' (s.deed L[i]) (by omega) (by show (s.step _ _ _).shown.length ≤ _; omega) (by show (s.step _ _ _).own.length ≤ _; omega) h3
    rw [List.drop_eq_getElem_cons (show i < L.length by omega), List.foldl_cons]
    exact ⟨M', a2, n2, q1.trans q2, h4⟩
/-- Adversary.Run. -/
theorem Adv_C {a1 : Option (Nat × Nat)} {l1 : Nat} {c1 : Cap} {L : List Deed} {xs : List Int} {arg : Int} (hd : DeedB PSv M o a1 l1 c1 L) (hok : ∀ d ∈ L, DeedOk d) (hl : L.length ≤ 1048576) (hb : ∀ d ∈ L, d.2.2.length ≤ 1048576)
    (hx : xs.length = n) (hn : n ≤ 2 ^ 44) (km : ks.mine = true) (ho : o < M.n) (hw : 0 < n → a = some (o, P.length) ∧ M.get o = some ⟨(P ++ (xs ++ Q)).map (.int .u8), ks⟩) :
    ∃ M', C 74 [.agg [.sl a1 l1 c1], .sl a n (.known n), .int .u64 arg] M = some (.int .u64 (L.foldl ScS.deed ⟨xs, [], false, 0, arg⟩).arg, M') ∧ Mem.But (· = o) M M' ∧ (0 < n → M'.get o = some ⟨(P ++ ((L.foldl ScS.deed ⟨xs, [], false, 0, arg⟩).shown ++ Q)).map (.int .u8), ks⟩) := by
  have hE := p74_0_eq C prog.meth a1 l1 c1 a n (.known n) arg M
  obtain ⟨M1, e1, g1, u1, n1⟩ := alloc_at M ⟨[.sl a1 l1 c1], .fixed⟩
  have w0 : WS M1 M1 o ks P Q a n ⟨xs, [], false, 0, arg⟩ := ⟨Mem.But.refl _ _, fun h0 => by omega, km, fun h0 => u1.get (hw (by have : 0 < xs.length := h0; omega)).2, hx, fun _ h0 => (hw h0).1, fun hf => (by cases hf), Nat.zero_le _⟩
  simp only [e1] at hE
  obtain ⟨M', a', n', q1, h3⟩ := adv_loop (bx := M.n) g1 (by omega) (hd.up (u1.but _)) hok hl hb L.length 0 M1 a n _ (by omega) (by show xs.length ≤ _; omega) (by simp) w0
  rw [List.drop_zero] at q1 h3
  have hfs := fold_shown L ⟨xs, [], false, 0, arg⟩ (Nat.zero_le _)
  exact ⟨M', c74 (hE.trans q1), (u1.but _).trans h3.but (fun _ _ h => h), fun h0 => h3.sh (by rw [hfs]; show 0 < xs.length; omega)⟩
theorem win_set {zs : List Int} (hg : M.get o = some ⟨(P ++ (zs ++ Q)).map (.int .u8), ks⟩) (km : ks.mine = true) {i : Nat} (hi : i < zs.length) (y : Int) : ∃ M', M.st o (P.length + i) [.int .u8 y] = some M' ∧ M'.get o = some ⟨(P ++ (zs.set i y ++ Q)).map (.int .u8), ks⟩ ∧ M'.n = M.n ∧ Mem.But (· = o) M M' := by
  have s1 := st_mine (i := P.length + i) (vs := [.int .u8 y]) hg km (by simp; omega)
  rw [overL_one, ← List.map_set, List.set_append_right _ _ (by omega), Nat.add_sub_cancel_left, List.set_append_left _ _ hi] at s1
  exact ⟨_, s1, get_put_self (Mem.get_lt hg), rfl, Mem.But.put _ _ _⟩
theorem win_get {zs : List Int} (hg : M.get o = some ⟨(P ++ (zs ++ Q)).map (.int .u8), ks⟩) (km : ks.mine = true) {i : Nat} (hi : i < zs.length) : M.ldI .u8 o (P.length + i) = some (zs[i]'hi) := by
  refine ldI_ld.2 ?_
  rw [ld_of hg (mine_live km), List.getElem?_map, List.getElem?_append_right (by omega), Nat.add_sub_cancel_left, List.getElem?_append_left hi, List.getElem?_eq_getElem hi]
  rfl
theorem win_ints {zs : List Int} (hl : zs.length = n) (ha : 0 < n → a = some (o, P.length) ∧ M.get o = some ⟨(P ++ (zs ++ Q)).map (.int .u8), ks⟩) (km : ks.mine = true) : M.ints .u8 a n (.known n) = some zs := by
  by_cases hn : 0 < n
  · obtain ⟨e1, e3⟩ := ha hn
    rw [e1]
    have := ints_part (k := .u8) (i := P.length) (l := n) (c := .known n) e3 (mine_live km) rfl (by simp; omega)
    rw [List.drop_left' rfl, List.take_left' hl] at this
    exact this
  · have : n = 0 := by omega
    subst this
    rw [List.length_eq_zero_iff.1 hl]; rfl
theorem wild_add {wo : Nat} {arg : Int} (km : ks.mine = true) (ha : 0 < n → a = some (o, P.length)) (hn : n ≤ 4096) :
    ∀ (d i : Nat) (M : Mem) (zs : List Int), i + d = n → zs.length = n → (0 < n → M.get o = some ⟨(P ++ (zs ++ Q)).map (.int .u8), ks⟩) →
    ∃ M' zs', p73_1 C prog.meth (some (wo, 0)) a n (.known n) arg a n (.known n) (i : Int) M = p73_1 C prog.meth (some (wo, 0)) a n (.known n) arg a n (.known n) (n : Int) M' ∧ zs'.length = n ∧ (0 < n → M'.get o = some ⟨(P ++ (zs' ++ Q)).map (.int .u8), ks⟩) ∧ M'.n = M.n ∧ Mem.But (fun y => 0 < n ∧ y = o) M M' := by
  intro d
  induction d with
  | zero =>
    intro i M zs hi hz hg
    have : i = n := by omega
    subst this
    exact ⟨M, zs, rfl, hz, hg, rfl, Mem.But.refl _ _⟩
  | succ d ih =>
    intro i M zs hi hz hg
    have hE := p73_1_eq C prog.meth (some (wo, 0)) a n (.known n) arg a n (.known n) (i : Int) M
    have q : ((i : Int) < (n : Int)) := by omega
    have c0 : (0 : Int) ≤ (i : Int) := by omega
    have c2 : Nat.blt i n = true := Mem.blt_iff.2 (by omega)
    have hw : IntKind.wrap .i64 ((i : Int) + 1) = ((i + 1 : Nat) : Int) := by rw [wrap_i64 (by omega) (by omega)]; rfl
    have hsp : slPtr a (.known n) = some (o, P.length) := ha (by omega)
    have g := hg (by omega)
    obtain ⟨M1, s1, g1, n1, b1⟩ := win_set g km (i := i) (by omega) (IntKind.wrap .u8 ((zs[i]'(by omega)) + (IntKind.wrap .u8 arg)))
    simp only [Option.bind_some, List.getElem?_cons_zero, List.getElem?_cons_succ, int?_int, AVal.bool?, AVal.ptr?, AVal.sl?, AVal.tup?, AVal.agg?, AVal.ifc?, AVal.fn?, AVal.str?, List.head?_cons, List.tail_cons, List.isEmpty_nil, cond_true, cond_false, Option.isNone_some, Option.isNone_none, Bool.not_true, Bool.not_false, decide_true, decide_false, beq_self_eq_true, bne_self_eq_false, Int.reduceBEq, Int.reduceBNe, Int.cast_ofNat_Int, q, c0, c2, Int.toNat_natCast, hsp, Nat.mul_one, win_get g km (show i < zs.length by omega), s1, hw] at hE
    obtain ⟨M', zs', t1, t2, t3, t4, t5⟩ := ih (i + 1) M1 _ (by omega) (by rw [List.length_set]; exact hz) (fun _ => g1)
    exact ⟨M', zs', hE.trans t1, t2, t3, by omega, (b1.mono (fun y hy => ⟨by omega, hy⟩)).trans t5 (fun _ _ h => h)⟩
theorem wild_fill {wo q l : Nat} {arg : Int} (hl : l ≤ 8192) :
    ∀ (d i : Nat) (M : Mem) (zs : List Int), i + d = l → zs.length = l → M.get q = some ⟨zs.map (.int .u8), .grow 1⟩ →
    ∃ M', p73_2 C prog.meth (some (wo, 0)) a n (.known n) arg a n (.known n) (some (q, 0)) l (.unk 0) (i : Int) M = p73_2 C prog.meth (some (wo, 0)) a n (.known n) arg a n (.known n) (some (q, 0)) l (.unk 0) (l : Int) M' ∧ M'.n = M.n ∧ Mem.But (· = q) M M' := by
  intro d
  induction d with
  | zero =>
    intro i M zs hi hz hg
    have : i = l := by omega
    subst this
    exact ⟨M, rfl, rfl, Mem.But.refl _ _⟩
  | succ d ih =>
    intro i M zs hi hz hg
    have hE := p73_2_eq C prog.meth (some (wo, 0)) a n (.known n) arg a n (.known n) (some (q, 0)) l (.unk 0) (i : Int) M
    have k : ((i : Int) < (l : Int)) := by omega
    have c0 : (0 : Int) ≤ (i : Int) := by omega
    have c2 : Nat.blt i l = true := Mem.blt_iff.2 (by omega)
    have hw : IntKind.wrap .i64 ((i : Int) + 1) = ((i + 1 : Nat) : Int) := by rw [wrap_i64 (by omega) (by omega)]; rfl
    have hsp : slPtr (some (q, 0)) (.unk 0) = some (q, 0) := rfl
    obtain ⟨M1, s1, g1, n1, b1⟩ := win_set (P := []) (Q := []) (zs := zs) (ks := .grow 1) (by simpa using hg) rfl (i := i) (by omega) 77
    have s1 : M.st q (0 + i) [.int .u8 77] = some M1 := s1
    rw [Nat.zero_add] at s1
    simp only [Option.bind_some, List.getElem?_cons_zero, List.getElem?_cons_succ, int?_int, AVal.bool?, AVal.ptr?, AVal.sl?, AVal.tup?, AVal.agg?, AVal.ifc?, AVal.fn?, AVal.str?, List.head?_cons, List.tail_cons, List.isEmpty_nil, cond_true, cond_false, Option.isNone_some, Option.isNone_none, Bool.not_true, Bool.not_false, decide_true, decide_false, beq_self_eq_true, bne_self_eq_false, Int.reduceBEq, Int.reduceBNe, Int.cast_ofNat_Int, k, c0, c2, Int.toNat_natCast, hsp, Nat.mul_one, Nat.zero_add, s1, hw] at hE
    obtain ⟨M', t1, t2, t3⟩ := ih (i + 1) M1 (zs.set i 77) (by omega) (by rw [List.length_set]; exact hz) (by simpa using g1)
    exact ⟨M', hE.trans t1, by omega, b1.trans t3 (fun _ _ h => h)⟩
/-- Wild.Run. -/
theorem Wild_C {M0 : Mem} {wo : Nat} {d1 : Option (Nat × Nat)} {dl : Nat} {dc : Cap} {L : List Deed} {f0 l0 r0 a0 : AVal} {xs : List Int} {arg : Int} (gw : M.get wo = some ⟨[.sl d1 dl dc, f0, l0, r0, .int .i64 0, a0], .fixed⟩) (hwo : wo ≠ o) (hD : Deeds M0 d1 dl dc L) (hu : M0.Upto M) (ho0 : M0.n ≤ o) (hw0 : M0.n ≤ wo) (hok : ∀ d ∈ L, DeedOk d) (hl : L.length ≤ 1048576) (hb : ∀ d ∈ L, d.2.2.length ≤ 1048576)
    (hx : xs.length = n) (hn : n ≤ 4096) (km : ks.mine = true) (ha : 0 < n → a = some (o, P.length)) (hg : 0 < n → M.get o = some ⟨(P ++ (xs ++ Q)).map (.int .u8), ks⟩) :
    ∃ M' rv f l ys, C 73 [.ptr (some (wo, 0)), .sl a n (.known n), .int .u64 arg] M = some (.int .u64 rv, M') ∧ ys.length = n ∧ Mem.But (fun y => (0 < n ∧ y = o) ∨ y = wo) M M' ∧ M'.get wo = some ⟨[.sl d1 dl dc, .sl f.1 f.2.1 f.2.2, .sl l.1 l.2.1 l.2.2, .int .i64 (n : Int), .int .i64 1, .int .u64 arg], .fixed⟩ ∧ Own1 M' f xs ∧ Own1 M' l ys ∧ (0 < n → M'.get o = some ⟨(P ++ (ys ++ Q)).map (.int .u8), ks⟩) := by
  have hE := p73_0_eq C prog.meth (some (wo, 0)) a n (.known n) arg M
  have hwl := Mem.get_lt gw
  have hw1 : IntKind.wrap .i64 ((0 : Int) + 1) = 1 := by decide
  obtain ⟨M1, s1, g1, n1, b1⟩ := st_at (i := 4) (vs := [.int .i64 1]) gw (by simp)
  obtain ⟨M2, s2, g2, n2, b2⟩ := st_at (i := 5) (vs := [.int .u64 arg]) g1 (by simp [overL])
  have o2 : 0 < n → M2.get o = some ⟨(P ++ (xs ++ Q)).map (.int .u8), ks⟩ := fun h0 => b2.get (b1.get (hg h0) (fun e => hwo e.symm)) (fun e => hwo e.symm)
  obtain ⟨M3, f, c3, u3, o3, f3, z3⟩ := CopyBytes_F (win_ints (o := o) hx (fun h0 => ⟨ha h0, o2 h0⟩) km) (by omega)
  obtain ⟨M4, s4, g4, n4, b4⟩ := st_at (i := 1) (vs := [.sl f.1 f.2.1 f.2.2]) (u3.get g2) (by simp [overL])
  obtain ⟨M5, s5, g5, n5, b5⟩ := st_at (i := 3) (vs := [.int .i64 (n : Int)]) g4 (by simp [overL])
  have g5 : M5.get wo = some ⟨[.sl d1 dl dc, .sl f.1 f.2.1 f.2.2, l0, .int .i64 (n : Int), .int .i64 1, .int .u64 arg], .fixed⟩ := g5
  have n3 := u3.1
  have B5 : Mem.But (· = wo) M M5 := (((b1.trans b2 (fun _ _ h => h)).trans (u3.but _) (fun _ _ h => h)).trans b4 (fun _ _ h => h)).trans b5 (fun _ _ h => h)
  have hadv : cond (Nat.beq n 0) a (adv a 0) = a := by cases Nat.beq n 0 <;> cases a <;> rfl
  simp only [Option.bind_some, List.getElem?_cons_zero, List.getElem?_cons_succ, int?_int, AVal.bool?, AVal.ptr?, AVal.sl?, AVal.tup?, AVal.agg?, AVal.ifc?, AVal.fn?, AVal.str?, List.head?_cons, List.tail_cons, List.isEmpty_nil, cond_true, cond_false, Option.isNone_some, Option.isNone_none, Bool.not_true, Bool.not_false, decide_true, decide_false, beq_self_eq_true, bne_self_eq_false, Int.reduceBEq, Int.reduceBNe, Int.cast_ofNat_Int, Nat.zero_add, ldI_at gw, hw1, s1, s2] at hE
  rw [c3, Option.bind_some] at hE
  simp only [Option.bind_some, List.getElem?_cons_zero, List.getElem?_cons_succ, int?_int, AVal.bool?, AVal.ptr?, AVal.sl?, AVal.tup?, AVal.agg?, AVal.ifc?, AVal.fn?, AVal.str?, List.head?_cons, List.tail_cons, List.isEmpty_nil, cond_true, cond_false, Option.isNone_some, Option.isNone_none, Bool.not_true, Bool.not_false, decide_true, decide_false, beq_self_eq_true, bne_self_eq_false, Int.reduceBEq, Int.reduceBNe, Int.cast_ofNat_Int, s4, s5] at hE
  rw [slcK_known_to (Nat.le_refl n), hadv] at hE
  have o5 : 0 < n → M5.get o = some ⟨(P ++ (xs ++ Q)).map (.int .u8), ks⟩ := fun h0 => B5.get (hg h0) (fun e => hwo e.symm)
  obtain ⟨M6, zs, t1, t2, t3, t4, t5⟩ := wild_add (wo := wo) (arg := arg) (Q := Q) km ha hn n 0 M5 xs (by omega) hx o5
  have hE1 := p73_1_eq C prog.meth (some (wo, 0)) a n (.known n) arg a n (.known n) (n : Int) M6
  obtain ⟨M7, e7, g7, u7, n7⟩ := alloc_at M6 ⟨[.int .u8 1, .int .u8 2, .int .u8 3], .fixed⟩
  have h123 : M7.ints .u8 (some (M6.n, 0)) 3 (.known 3) = some [1, 2, 3] := ints_whole (xs := [1, 2, 3]) g7 (by simp) rfl
  have hfull := win_ints (M := M7) (o := o) t2 (fun h0 => ⟨ha h0, u7.get (t3 h0)⟩) km
  have irr : ¬ ((n : Int) < (n : Int)) := by omega
  simp only [irr, decide_false, cond_false, e7] at hE1
  rw [appK_more (ints_raws.1 hfull) (ints_raws.1 h123) (by omega) (by omega), ← List.map_append] at hE1
  obtain ⟨M8, e8, g8, u8, n8⟩ := alloc_at M7 ⟨(zs ++ [1, 2, 3]).map (.int .u8), .grow 1⟩
  rw [e8] at hE1
  obtain ⟨M9, w1, w2, w3⟩ := wild_fill (a := a) (n := n) (wo := wo) (arg := arg) (q := M7.n) (l := n + 3) (by omega) (n + 3) 0 M8 _ (by omega) (by simp [t2]) g8
  have hE2 := p73_2_eq C prog.meth (some (wo, 0)) a n (.known n) arg a n (.known n) (some (M7.n, 0)) (n + 3) (.unk 0) ((n + 3 : Nat) : Int) M9
  have n6 : M.n ≤ M6.n := by have := B5.1; omega
  have B9 : Mem.But (fun y => (0 < n ∧ y = o) ∨ y = wo) M M9 :=
    ((B5.mono (fun y hy => .inr hy)).trans t5 (fun y _ hy => .inl hy)).trans (((u7.trans u8).but (· = M7.n)).trans w3 (fun y _ h => h)) (fun y hy h => by omega)
  have g9 : M9.get wo = some ⟨[.sl d1 dl dc, .sl f.1 f.2.1 f.2.2, l0, .int .i64 (n : Int), .int .i64 1, .int .u64 arg], .fixed⟩ := by
    rw [w3.2 wo (by omega) (by omega), u8.2 wo (by omega), u7.2 wo (by omega), t5.2 wo (by have := B5.1; omega) (fun h => hwo h.2)]; exact g5
  have o9 : 0 < n → M9.get o = some ⟨(P ++ (zs ++ Q)).map (.int .u8), ks⟩ := fun h0 => by
    have hol := Mem.get_lt (t3 h0)
    rw [w3.2 o (by omega) (by omega), u8.2 o (by omega), u7.2 o (by omega)]; exact t3 h0
  have up9 : M0.Upto M9 := ⟨by have := hu.1; have := B9.1; omega, fun y hy => by
    have := hu.1
    rw [B9.2 y (by omega) (by omega), hu.2 y hy]⟩
  have irr2 : ¬ (((n + 3 : Nat) : Int) < ((n + 3 : Nat) : Int)) := by omega
  -- the adversary
  obtain ⟨M10, rv, ys, c10, y1, y2, y3⟩ : ∃ M10 rv ys, C 74 [.agg [.sl d1 dl dc], .sl a n (.known n), .int .u64 arg] M9 = some (.int .u64 rv, M10) ∧ List.length ys = n ∧ Mem.But (fun y => (0 < n ∧ y = o) ∨ y = M7.n) M9 M10 ∧ (0 < n → M10.get o = some ⟨(P ++ (ys ++ Q)).map (.int .u8), ks⟩) := by
    have hfs := fold_shown L ⟨zs, [], false, 0, arg⟩ (Nat.zero_le _)
    by_cases h0 : 0 < n
    · obtain ⟨M10, r1, r2, r3⟩ := Adv_C (M := M9) (o := o) (P := P) (Q := Q) (ks := ks) (a := a) (n := n) (xs := zs) (arg := arg) (hD.below up9 ho0) hok hl hb t2 (by omega) km (Mem.get_lt (o9 h0)) (fun h0 => ⟨ha h0, o9 h0⟩)
      exact ⟨M10, _, _, r1, hfs.trans t2, r2.mono (fun y hy => .inl ⟨h0, hy⟩), r3⟩
    · obtain ⟨M10, r1, r2, r3⟩ := Adv_C (M := M9) (o := M7.n) (P := P) (Q := Q) (ks := ks) (a := a) (n := n) (xs := zs) (arg := arg) (hD.below up9 (by have := hu.1; omega)) hok hl hb t2 (by omega) km (by omega) (fun h => absurd h h0)
      exact ⟨M10, _, _, r1, hfs.trans t2, r2.mono (fun y hy => .inr hy), fun h => absurd h h0⟩
  have g10 := y2.get g9 (by
    rintro (h | h)
    · exact hwo h.2
    · omega)
  obtain ⟨M11, l, c11, u11, o11, f11, z11⟩ := CopyBytes_F (win_ints (o := o) y1 (fun h0 => ⟨ha h0, y3 h0⟩) km) (by omega)
  obtain ⟨M12, s12, g12, n12, b12⟩ := st_at (i := 2) (vs := [.sl l.1 l.2.1 l.2.2]) (u11.get g10) (by simp [overL])
  simp only [irr2, Option.bind_some, List.getElem?_cons_zero, List.getElem?_cons_succ, int?_int, AVal.bool?, AVal.ptr?, AVal.sl?, AVal.tup?, AVal.agg?, AVal.ifc?, AVal.fn?, AVal.str?, List.head?_cons, List.tail_cons, List.isEmpty_nil, cond_true, cond_false, Option.isNone_some, Option.isNone_none, Bool.not_true, Bool.not_false, decide_true, decide_false, beq_self_eq_true, bne_self_eq_false, Int.reduceBEq, Int.reduceBNe, Int.cast_ofNat_Int, Nat.zero_add, ldL_at g9] at hE2
  rw [c10, Option.bind_some] at hE2
  simp only [Option.bind_some, List.getElem?_cons_zero, List.getElem?_cons_succ, int?_int, AVal.bool?, AVal.ptr?, AVal.sl?, AVal.tup?, AVal.agg?, AVal.ifc?, AVal.fn?, AVal.str?, List.head?_cons, List.tail_cons, List.isEmpty_nil, cond_true, cond_false, Option.isNone_some, Option.isNone_none, Bool.not_true, Bool.not_false, decide_true, decide_false, beq_self_eq_true, bne_self_eq_false, Int.reduceBEq, Int.reduceBNe, Int.cast_ofNat_Int] at hE2
  rw [c11, Option.bind_some] at hE2
  simp only [Option.bind_some, List.getElem?_cons_zero, List.getElem?_cons_succ, int?_int, AVal.bool?, AVal.ptr?, AVal.sl?, AVal.tup?, AVal.agg?, AVal.ifc?, AVal.fn?, AVal.str?, List.head?_cons, List.tail_cons, List.isEmpty_nil, cond_true, cond_false, Option.isNone_some, Option.isNone_none, Bool.not_true, Bool.not_false, decide_true, decide_false, beq_self_eq_true, bne_self_eq_false, Int.reduceBEq, Int.reduceBNe, Int.cast_ofNat_Int, s12] at hE2
  have n10 := y2.1
  have n11 := u11.1
  have n9 := B9.1
  have fix : ∀ y, M2.n ≤ y → y < M3.n → M12.get y = M3.get y := fun y h1 h2 => by
    have hy6 : y < M6.n := by omega
    rw [b12.2 y (by omega) (by omega), u11.2 y (by omega), y2.2 y (by omega) (by
      rintro (h | h)
      · have := Mem.get_lt (hg h.1); omega
      · omega), w3.2 y (by omega) (by omega), u8.2 y (by omega), u7.2 y (by omega), t5.2 y (by omega) (fun h => by have := Mem.get_lt (hg h.1); omega), b5.2 y (by omega) (by omega), b4.2 y (by omega) (by omega)]
  refine ⟨M12, rv, f, l, ys, c73 (hE.trans (t1.trans (hE1.trans (w1.trans hE2)))), y1, ?_, g12, o3.same (fun q hq => fix q (f3 q hq) (o3.lt q hq)), o11.same (fun q hq => b12.2 q (o11.lt q hq) (by have := f11 q hq; omega)), fun h0 => ?_⟩
  · exact ((B9.trans y2 (fun y hy h => by
      rcases h with h | h
      · exact .inl h
      · omega)).trans (u11.but _) (fun _ _ h => h)).trans b12 (fun y _ h => .inr h)
  · rw [b12.2 o (by have := Mem.get_lt (y3 h0); omega) (fun e => hwo e.symm)]
    exact u11.get (y3 h0)
end
section
variable {M0 M : Mem} {role : Nat → Rj} {hs : List Nat} {cur : List (Option Nat)} {gs : List Gp} {ds : List Dt} {i h g : Nat} {x : Gp} {d : Dt}
/-- Lend, with a Wild. -/
theorem Lend_wild {wo : Nat} {d1 : Option (Nat × Nat)} {dl : Nat} {dc : Cap} {L : List Deed} {f0 l0 r0 a0 : AVal} (H : GS false KI M0 M role hs cur gs ds) (hi : hs[i]? = some h) (hc : cur[i]? = some (some g)) (hd : ds[g]? = some d) {at_ n : Nat} {arg : Int} (hle : at_ + n ≤ d.B.length)
    (gw : M.get wo = some ⟨[.sl d1 dl dc, f0, l0, r0, .int .i64 0, a0], .fixed⟩) (rw_ : role wo = .other 0) (hw0 : M0.n ≤ wo) (hD : Deeds M0 d1 dl dc L) (hok : ∀ d ∈ L, DeedOk d) (hl : L.length ≤ 1048576) (hb : ∀ d ∈ L, d.2.2.length ≤ 1048576) :
    ∃ M' role' gs' rv f l ys, C 12 [.ptr (some (h, 0)), .agg [.int .i64 (at_ : Int), .int .i64 (n : Int)], .ifc (some 35) (.ptr (some (wo, 0))), .int .u64 arg] M = some (.tup [.int .u64 rv, .int .i64 0], M') ∧
      GS false KI M0 M' role' hs (oC cur ds.length i g) gs' ((oD cur ds g d).set (oG cur ds.length g) ⟨d.B.take at_ ++ (ys ++ d.B.drop (at_ + n)), (oE cur g d).a, (oE cur g d).t, (oE cur g d).mv⟩) ∧ List.length ys = n ∧
      M'.get wo = some ⟨[.sl d1 dl dc, .sl f.1 f.2.1 f.2.2, .sl l.1 l.2.1 l.2.2, .int .i64 (n : Int), .int .i64 1, .int .u64 arg], .fixed⟩ ∧ Own1 M' f ((d.B.drop at_).take n) ∧ Own1 M' l ys ∧ M.n ≤ M'.n ∧ (∀ y, y < M.n → (role y).side ≠ some false → y ≠ wo → M'.get y = M.get y) ∧ (∀ y, y < M.n → role' y = role y) := by
  obtain ⟨x0, d0, hx0, hd0⟩ := H.at hc
  rw [hd] at hd0; cases hd0
  obtain ⟨_, _, hp0, _⟩ := I_rd H hi hc hx0 hd
  have hsz := hp0.sz
  have hwl := Mem.get_lt gw
  obtain ⟨M3, role3, gs3, x3, o, a, P, Q, H3, F3, hx3, ho, ha, hg, hcall, hpost⟩ := Lend_in H hi hc hd (t := 35) (f := 73) (v := .ptr (some (wo, 0))) (at_ := at_) (n := n) (arg := arg) hle rfl
  obtain ⟨d3, hd3⟩ := H3.dat hx3
  obtain ⟨_, p3, _, _, rf, _, _, n3⟩ := H3.grp _ _ _ hx3 hd3
  have ro := rf o (by rw [ho]; simp)
  have no := n3 o (by rw [ho]; simp)
  have gw3 : M3.get wo = _ := (F3.get wo hwl (by rw [rw_]; exact nofun)).trans gw
  have rw3 : role3 wo = .other 0 := (F3.rl wo hwl).trans rw_
  have hne : wo ≠ o := fun e => by rw [e, ro] at rw3; cases rw3
  have hol := Mem.get_lt hg
  have hxs : ((d.B.drop at_).take n).length = n := by simp; omega
  obtain ⟨M4, rv, f, l, ys, r1, r2, r3, r4, r5, r6, r7⟩ := Wild_C (M := M3) (o := o) (P := P) (Q := Q) (ks := .fixed) (a := a) (n := n) (xs := (d.B.drop at_).take n) (arg := arg) gw3 hne hD H3.up no hw0 hok hl hb hxs (by omega) rfl ha (fun _ => hg)
  have hg4 : M4.get o = some ⟨(P ++ (ys ++ Q)).map (.int .u8), .fixed⟩ := by
    by_cases h0 : 0 < n
    · exact r7 h0
    · have e1 : ys = [] := List.length_eq_zero_iff.1 (by omega)
      have e2 : (d.B.drop at_).take n = [] := List.length_eq_zero_iff.1 (by omega)
      rw [e1, r3.2 o hol (by
        rintro (h | h)
        · exact h0 h.1
        · exact hne h.symm), hg, e2]
  have hup : M0.Upto M4 := ⟨by have := H3.up.1; have := r3.1; omega, fun y hy => by
    have := H3.up.1
    rw [r3.2 y (by omega) (by omega), H3.up.2 y hy]⟩
  have H4 := hpost M4 ys r2 hup r3.1 (fun y hy hs hne' => r3.2 y hy (by
    rintro (h | h)
    · exact hne' h.2
    · rw [h, rw3] at hs; cases hs)) hg4
  have n3' := F3.n
  have n4' := r3.1
  refine ⟨M4, _, gs3, rv, f, l, ys, hcall rv M4 r1, H4, r2, r4, r5, r6, by omega, fun y hy hs hyw => ?_, fun y hy => ?_⟩
  · rw [r3.2 y (by omega) (by
      rintro (h | h)
      · have := F3.rl y hy
        rw [h.2, ro] at this
        rw [h.2, ← this] at hs
        exact hs rfl
      · exact hyw h), F3.get y hy hs]
  · rw [extR_lt (by omega)]; exact F3.rl y hy
end
end Go.Proofs.Ytjcakemgghfflaa.M
namespace Go.Proofs.Ytjcakemgghfflaa.M
open Go.Abs Go.RowKit

/-! Regions without pairs: no records are kept. -/
def toG : DL → GL
  | .nil => .nil
  | .op d o r => .op d o (toG r)
  | .grp t w b r => .grp t w (toG b) (toG r)
theorem skip_kill (M : Mem) : ∀ (d : DL) (fr : Fr) (acc : List TRec), (DL.skip M d fr acc).1 = GL.kill fr (toG d)
  | .nil, fr, acc => rfl
  | .op d o r, fr, acc => by
    simp only [DL.skip, toG, GL.kill]
    exact skip_kill M r _ _
  | .grp t w b r, fr, acc => by
    simp only [DL.skip, toG, GL.kill]
    rw [← skip_kill M b fr acc]
    exact skip_kill M r _ _
theorem evalDL_G {β : Type} (call : CallF) (meth : MethF) : ∀ (d : DL) (fr : Fr) (M : Mem) (acc : List TRec) (X : Fr → Mem → Option β), evalDL false call meth d fr M acc (fun fr M _ => X fr M) = evalGL false call meth (toG d) fr M X
  | .nil, fr, M, acc, X => rfl
  | .op d o r, fr, M, acc, X => by
    simp only [evalDL, toG, evalGL, fM_eq]
    congr 1
    funext v M'
    exact evalDL_G call meth r _ _ _ X
  | .grp t w b r, fr, M, acc, X => by
    have e1 : ∀ fr M acc, evalDL false call meth r fr M acc (fun fr M _ => X fr M) = evalGL false call meth (toG r) fr M X := fun fr M acc => evalDL_G call meth r fr M acc X
    have e2 : ∀ fr M acc, evalDL false call meth b fr M acc (fun fr M acc => evalDL false call meth r fr M acc fun fr M _ => X fr M) = evalGL false call meth (toG b) fr M (fun fr M => evalGL false call meth (toG r) fr M X) := fun fr M acc => by
      simp only [e1]
      exact evalDL_G call meth b fr M acc (fun fr M => evalGL false call meth (toG r) fr M X)
    have e3 : ∀ fr acc, (match DL.skip M b fr acc with | (fr, acc) => evalDL false call meth r fr M acc fun fr M _ => X fr M) = evalGL false call meth (toG r) (GL.kill fr (toG b)) M X := fun fr acc => by
      rw [← skip_kill M b fr acc]
      exact e1 _ _ _
    simp only [evalDL, toG, evalGL, e2, e3]
/-! Steps of a region. -/
section
variable {β : Type} {call : CallF} {meth : MethF} {r b : GL} {fr : Fr} {M M' : Mem} {K : Fr → Mem → Option β} {d x y : Tmp}
theorem G_mov {v : AVal} (h : fr.g x = some v) : evalGL false call meth (.op (some d) (.mov (.t x)) r) fr M K = evalGL false call meth r (fr.s d (some v)) M K := by
  simp only [evalGL, evalOp, ev, h, Option.bind_some, fM_eq, Fr.put]
theorem G_fld {off o i : Nat} (h : fr.g x = some (.ptr (some (o, i)))) : evalGL false call meth (.op (some d) (.fldA off (.t x)) r) fr M K = evalGL false call meth r (fr.s d (some (.ptr (some (o, i + off))))) M K := by
  simp only [evalGL, evalOp, ev, h, Option.bind_some, fM_eq, Fr.put, ptrK, AVal.ptr?]
theorem G_ldI {k : IntKind} {o i : Nat} {n : Int} (h : fr.g x = some (.ptr (some (o, i)))) (h2 : M.ldI k o i = some n) : evalGL false call meth (.op (some d) (.load1 (.int k) (.t x)) r) fr M K = evalGL false call meth r (fr.s d (some (.int k n))) M K := by
  simp only [evalGL, evalOp, ev, h, Option.bind_some, fM_eq, Fr.put, ptrK, AVal.ptr?, Mem.ldT, h2]
theorem G_ldL {o i : Nat} {v : SlV} (h : fr.g x = some (.ptr (some (o, i)))) (h2 : M.ldL o i = some v) : evalGL false call meth (.op (some d) (.load1 .sl (.t x)) r) fr M K = evalGL false call meth r (fr.s d (some (.sl v.1 v.2.1 v.2.2))) M K := by
  simp only [evalGL, evalOp, ev, h, Option.bind_some, fM_eq, Fr.put, ptrK, AVal.ptr?, Mem.ldT, h2]
theorem G_add {m n : Int} (h : fr.g x = some (.int .i64 m)) (h2 : fr.g y = some (.int .i64 n)) : evalGL false call meth (.op (some d) (.bin .add (.t x) (.t y)) r) fr M K = evalGL false call meth r (fr.s d (some (.int .i64 (IntKind.wrap .i64 (m + n))))) M K := by
  simp only [evalGL, evalOp, ev, h, h2, Option.bind_some, fM_eq, fI_eq, Fr.put, binI, decide_true, cond_true]
theorem G_slc {a a2 : Option (Nat × Nat)} {l n : Nat} {c c2 : Cap} {lo hi : Option AOpd} {vl vh : Option AVal} (h : fr.g x = some (.sl a l c)) (h2 : ∀ K : Option AVal → Option β, evO fr lo K = K vl) (h3 : ∀ K : Option AVal → Option β, evO fr hi K = K vh) (hs : ∀ (K : Option (Nat × Nat) → Nat → Cap → Option β), slcK false 1 a l c M vl vh none K = K a2 n c2) : evalGL false call meth (.op (some d) (.slc 1 (.t x) lo hi none) r) fr M K = evalGL false call meth r (fr.s d (some (.sl a2 n c2))) M K := by
  simp only [evalGL, evalOp, ev, h, Option.bind_some]
  rw [h2, h3]
  simp only [evO, fM_eq, Fr.put]
  exact hs _
theorem G_call2 {f : FuncId} {v w : AVal} {t : Bool} (h : fr.g x = some v) (h2 : fr.g y = some w) (hc : call f [v, w] M = some (.bool t, M')) : evalGL false call meth (.op (some d) (.call f [.t x, .t y] (.r (.one .bool))) r) fr M K = evalGL false call meth r (fr.s d (some (.bool t))) M' K := by
  simp only [evalGL, evalOp, evs, ev, h, h2, Option.bind_some, fM_eq, Fr.put, hc, AVal.castRs, AVal.castR, AVal.cast, AVal.bool?]
theorem G_nil {p : Nat × Nat} (h : fr.g x = some (.ptr (some p))) : evalGL false call meth (.op (some d) (.nilCk (.t x)) r) fr M K = evalGL false call meth r (fr.s d (some (.ptr (some p)))) M K := by
  simp only [evalGL, evalOp, ev, h, Option.bind_some, fM_eq, Fr.put]
theorem G_pick {v w : AVal} (h : fr.g x = some (.bool true)) (h2 : fr.g y = some v) : evalGL false call meth (.op (some d) (.pick (.t x) (.t y) (.c w)) r) fr M K = evalGL false call meth r (fr.s d (some v)) M K := by
  simp only [evalGL, evalOp, ev, h, h2, Option.bind_some, AVal.bool?, cond_true, fM_eq, Fr.put]
theorem G_grp (h : fr.g x = some (.bool true)) : evalGL false call meth (.grp x true b r) fr M K = evalGL false call meth b (fr.s x (some (.bool true))) M fun fr M => evalGL false call meth r fr M K := by
  simp only [evalGL, h, Option.bind_some, AVal.bool?, cond_true]
theorem G_end : evalGL false call meth .nil fr M K = K fr M := rfl
theorem evO_t {β : Type} {v : AVal} (h : fr.g x = some v) (K : Option AVal → Option β) : evO fr (some (.t x)) K = K (some v) := by
  simp only [evO, ev, h, Option.bind_some]
theorem run_ret {rs : List ARes} : run false call meth rs [.code .ret] fr M = (resOf rs fr M).bind some := by
  rw [run_fix]; rfl
theorem run_seq_drw {rs : List ARes} {D : DL} {c : AC} : run false call meth rs [.code (.seq (.drw D [] []) c)] fr M = evalGL false call meth (toG D) fr M (fun fr M => run false call meth rs [.code c] fr M) := by
  rw [run_fix]
  show run false call meth rs [.code (.drw D [] []), .code c] fr M = _
  rw [run_fix]
  show evalDL false call meth D fr M [] (fun fr M acc => cond (chkPairs acc.reverse M []) (run false call meth rs [.code c] (fr.kill []) M) none) = _
  simp only [chkPairs, cond_true, Fr.kill]
  exact evalDL_G call meth D fr M [] _
end
section
variable {M : Mem} {a : Option (Nat × Nat)} {l : Nat} {c : Cap} {xs : List Int}
theorem PS.to {kh : IntKind} (h : PS M a l c xs) {i : Nat} (hi : i ≤ l) : ∃ a2 c2, (∀ {β : Type} (K : Option (Nat × Nat) → Nat → Cap → Option β), slcK false 1 a l c M none (some (.int kh (i : Int))) none K = K a2 i c2) ∧ M.ints .u8 a2 i c2 = some (xs.take i) := by
  have hl := ints_length h.ints
  rcases h.form with ⟨rfl, rfl | rfl⟩ | ⟨o, cs, k, rfl, rfl, hk, hg, hc⟩
  · obtain rfl : i = 0 := by omega
    exact ⟨_, _, fun K => slcK_known_to (Nat.le_refl _), by simp; rfl⟩
  · obtain rfl : i = 0 := by omega
    exact ⟨a, .odd, fun K => by unfold slcK; simp only [asNatO_int, asNatO_none, Nat.beq_refl, ble_iff.2 (Nat.le_refl 0), cond_true], by simp; rfl⟩
  · exact ⟨_, _, fun K => slcK_own_to hg hk (by omega), ints_take h.ints hi⟩
/-- The last test of ForeignWindow. -/
theorem window_end {x0a : Option (Nat × Nat)} {x0l : Nat} {x0c : Cap} {bx wo : Nat} {va : Option (Nat × Nat)} {vl : Nat} {vc : Cap} {A N : Nat} {lv : SlV} {r1 r2 r3 r4 r5 : AVal} {ps ns : List Int} (hp : PS M x0a x0l x0c ps) (hn : PS M va vl vc ns) (gx : M.get bx = some ⟨[.int .i64 (A : Int), .int .i64 (N : Int)], .fixed⟩) (gw : M.get wo = some ⟨[r1, r2, .sl lv.1 lv.2.1 lv.2.2, r3, r4, r5], .fixed⟩) (hA : A + N ≤ x0l) (hl : x0l = vl) (h48 : x0l ≤ 4096) {ys : List Int} (hys : ys.length = N) (hv : M.ints .u8 lv.1 lv.2.1 lv.2.2 = some ys) (hns : ns = ps.take A ++ (ys ++ ps.drop (A + N))) :
    p3_2 C prog.meth x0a x0l x0c bx (some (wo, 0)) va vl vc M = some (.bool true, M) := by
  have hpl := ints_length hp.ints
  have hnl := ints_length hn.ints
  subst hl
  have hw : IntKind.wrap .i64 ((A : Int) + (N : Int)) = ((A + N : Nat) : Int) := by rw [wrap_i64 (by omega) (by omega)]; omega
  obtain ⟨b1, d1, s1, i1⟩ := hn.to (kh := .i64) (i := A) (by omega)
  obtain ⟨b2, d2, s2, i2⟩ := hp.to (kh := .i64) (i := A) (by omega)
  obtain ⟨b3, d3, s3, i3⟩ := hn.from (kl := .i64) (i := A + N) (by omega)
  obtain ⟨b4, d4, s4, i4⟩ := hp.from (kl := .i64) (i := A + N) (by omega)
  obtain ⟨b5, d5, s5, i5⟩ := hn.sub (kl := .i64) (kh := .i64) (i := A) (n := N) (by omega)
  have t1 : ns.take A = ps.take A := by rw [hns, List.take_append_of_le_length (by simp; omega), List.take_take, Nat.min_self]
  have t2 : ns.drop (A + N) = ps.drop (A + N) := by
    rw [hns, ← List.append_assoc]
    exact List.drop_left' (by simp; omega)
  have t3 : (ns.drop A).take N = ys := by
    rw [hns, List.drop_append_of_le_length (by simp; omega), List.drop_eq_nil_of_le (by simp; omega), List.nil_append, List.take_left' hys]
  have c1 := EqBytes_C (M := M) i1 i2 (by omega)
  have c2 := EqBytes_C (M := M) i3 i4 (by omega)
  have c3 := EqBytes_C (M := M) i5 hv (by omega)
  rw [t1] at c1
  rw [t2] at c2
  rw [t3] at c3
  simp only [decide_true] at c1 c2 c3
  have l0 : M.ldI .i64 bx (0 + 0) = some (A : Int) := by rw [ldI_at gx]; rfl
  have l1 : M.ldI .i64 bx (0 + 1) = some (N : Int) := by rw [ldI_at gx]; rfl
  have l2 : M.ldL wo (0 + 2) = some lv := by rw [ldL_at gw]; rfl
  unfold p3_2
  rw [show C3_2 = .seq (.drw _ [] []) C3_1 from rfl, run_seq_drw]
  generalize hfr : ([some (.sl x0a x0l x0c), none, none, none, some (.ptr (some (bx, 0))), none, none, none, none, some (.ptr (some (wo, 0))), some (.sl va x0l vc), none, none, none, none, none, none, none, none, none, none, none, none, none, none, none, none, none, none, none, none, none, none, none, none, none, none, none, none, none, none, none, none, none, none, none, none, none, none, none, none, none, none, none, none, none, none, none, none, none, none, none, none, none, none, none, none, none, none, none, none, none, none, none, none, none, none, none, none, none, none, none, none, none, none, none, none, none, none, none, none, none, none, none, none, none, none, none, none, none, none, none, none, none, none, none, none, none, none, none, none, none, none, none, none, none, none, none, none, none, none, none, none, none, none, none, none, none, none, none, none, none, none, none, none, none, none, none, none, none, none, none, none, none, none, none, none, none, none, none] : List (Option AVal)) = fr
  have g0 : Fr.g fr 0 = some (.sl x0a x0l x0c) := by rw [← hfr]; rfl
  have g4 : Fr.g fr 4 = some (.ptr (some (bx, 0))) := by rw [← hfr]; rfl
  have g9 : Fr.g fr 9 = some (.ptr (some (wo, 0))) := by rw [← hfr]; rfl
  have g10 : Fr.g fr 10 = some (.sl va x0l vc) := by rw [← hfr]; rfl
  have hlen : fr.length = 150 := by rw [← hfr]; rfl
  clear hfr
  simp only [toG]
  rw [G_mov (v := (.sl va x0l vc)) (by simp [Fr.g_s, Fr.length_s, hlen, g0, g4, g9, g10])]
  rw [G_fld (o := bx) (i := 0) (by simp [Fr.g_s, Fr.length_s, hlen, g0, g4, g9, g10])]
  rw [G_ldI (o := bx) (i := 0 + 0) (by simp [Fr.g_s, Fr.length_s, hlen, g0, g4, g9, g10]) l0]
  rw [G_slc (a := va) (l := x0l) (c := vc) (a2 := b1) (n := A) (c2 := d1) (vl := none) (vh := some (.int .i64 (A : Int))) (by simp [Fr.g_s, Fr.length_s, hlen, g0, g4, g9, g10]) (fun _ => rfl) (evO_t (by simp [Fr.g_s, Fr.length_s, hlen, g0, g4, g9, g10])) s1]
  rw [G_mov (v := (.sl x0a x0l x0c)) (by simp [Fr.g_s, Fr.length_s, hlen, g0, g4, g9, g10])]
  rw [G_fld (o := bx) (i := 0) (by simp [Fr.g_s, Fr.length_s, hlen, g0, g4, g9, g10])]
  rw [G_ldI (o := bx) (i := 0 + 0) (by simp [Fr.g_s, Fr.length_s, hlen, g0, g4, g9, g10]) l0]
  rw [G_slc (a := x0a) (l := x0l) (c := x0c) (a2 := b2) (n := A) (c2 := d2) (vl := none) (vh := some (.int .i64 (A : Int))) (by simp [Fr.g_s, Fr.length_s, hlen, g0, g4, g9, g10]) (fun _ => rfl) (evO_t (by simp [Fr.g_s, Fr.length_s, hlen, g0, g4, g9, g10])) s2]
  rw [G_call2 (v := (.sl b1 A d1)) (w := (.sl b2 A d2)) (by simp [Fr.g_s, Fr.length_s, hlen, g0, g4, g9, g10]) (by simp [Fr.g_s, Fr.length_s, hlen, g0, g4, g9, g10]) c1]
  rw [G_mov (v := (.bool true)) (by simp [Fr.g_s, Fr.length_s, hlen, g0, g4, g9, g10])]
  rw [G_grp (by simp [Fr.g_s, Fr.length_s, hlen, g0, g4, g9, g10])]
  rw [G_mov (v := (.sl va x0l vc)) (by simp [Fr.g_s, Fr.length_s, hlen, g0, g4, g9, g10])]
  rw [G_fld (o := bx) (i := 0) (by simp [Fr.g_s, Fr.length_s, hlen, g0, g4, g9, g10])]
  rw [G_ldI (o := bx) (i := 0 + 0) (by simp [Fr.g_s, Fr.length_s, hlen, g0, g4, g9, g10]) l0]
  rw [G_fld (o := bx) (i := 0) (by simp [Fr.g_s, Fr.length_s, hlen, g0, g4, g9, g10])]
  rw [G_ldI (o := bx) (i := 0 + 1) (by simp [Fr.g_s, Fr.length_s, hlen, g0, g4, g9, g10]) l1]
  rw [G_add (m := (A : Int)) (n := (N : Int)) (by simp [Fr.g_s, Fr.length_s, hlen, g0, g4, g9, g10]) (by simp [Fr.g_s, Fr.length_s, hlen, g0, g4, g9, g10]), hw]
  rw [G_slc (a := va) (l := x0l) (c := vc) (a2 := b3) (n := (x0l - (A + N))) (c2 := d3) (vl := some (.int .i64 ((A + N : Nat) : Int))) (vh := none) (by simp [Fr.g_s, Fr.length_s, hlen, g0, g4, g9, g10]) (evO_t (by simp [Fr.g_s, Fr.length_s, hlen, g0, g4, g9, g10])) (fun _ => rfl) s3]
  rw [G_mov (v := (.sl x0a x0l x0c)) (by simp [Fr.g_s, Fr.length_s, hlen, g0, g4, g9, g10])]
  rw [G_fld (o := bx) (i := 0) (by simp [Fr.g_s, Fr.length_s, hlen, g0, g4, g9, g10])]
  rw [G_ldI (o := bx) (i := 0 + 0) (by simp [Fr.g_s, Fr.length_s, hlen, g0, g4, g9, g10]) l0]
  rw [G_fld (o := bx) (i := 0) (by simp [Fr.g_s, Fr.length_s, hlen, g0, g4, g9, g10])]
  rw [G_ldI (o := bx) (i := 0 + 1) (by simp [Fr.g_s, Fr.length_s, hlen, g0, g4, g9, g10]) l1]
  rw [G_add (m := (A : Int)) (n := (N : Int)) (by simp [Fr.g_s, Fr.length_s, hlen, g0, g4, g9, g10]) (by simp [Fr.g_s, Fr.length_s, hlen, g0, g4, g9, g10]), hw]
  rw [G_slc (a := x0a) (l := x0l) (c := x0c) (a2 := b4) (n := (x0l - (A + N))) (c2 := d4) (vl := some (.int .i64 ((A + N : Nat) : Int))) (vh := none) (by simp [Fr.g_s, Fr.length_s, hlen, g0, g4, g9, g10]) (evO_t (by simp [Fr.g_s, Fr.length_s, hlen, g0, g4, g9, g10])) (fun _ => rfl) s4]
  rw [G_call2 (v := (.sl b3 (x0l - (A + N)) d3)) (w := (.sl b4 (x0l - (A + N)) d4)) (by simp [Fr.g_s, Fr.length_s, hlen, g0, g4, g9, g10]) (by simp [Fr.g_s, Fr.length_s, hlen, g0, g4, g9, g10]) c2]
  rw [G_end]
  rw [G_pick (v := (.bool true)) (by simp [Fr.g_s, Fr.length_s, hlen, g0, g4, g9, g10]) (by simp [Fr.g_s, Fr.length_s, hlen, g0, g4, g9, g10])]
  rw [G_mov (v := (.bool true)) (by simp [Fr.g_s, Fr.length_s, hlen, g0, g4, g9, g10])]
  rw [G_grp (by simp [Fr.g_s, Fr.length_s, hlen, g0, g4, g9, g10])]
  rw [G_mov (v := (.sl va x0l vc)) (by simp [Fr.g_s, Fr.length_s, hlen, g0, g4, g9, g10])]
  rw [G_fld (o := bx) (i := 0) (by simp [Fr.g_s, Fr.length_s, hlen, g0, g4, g9, g10])]
  rw [G_ldI (o := bx) (i := 0 + 0) (by simp [Fr.g_s, Fr.length_s, hlen, g0, g4, g9, g10]) l0]
  rw [G_fld (o := bx) (i := 0) (by simp [Fr.g_s, Fr.length_s, hlen, g0, g4, g9, g10])]
  rw [G_ldI (o := bx) (i := 0 + 0) (by simp [Fr.g_s, Fr.length_s, hlen, g0, g4, g9, g10]) l0]
  rw [G_fld (o := bx) (i := 0) (by simp [Fr.g_s, Fr.length_s, hlen, g0, g4, g9, g10])]
  rw [G_ldI (o := bx) (i := 0 + 1) (by simp [Fr.g_s, Fr.length_s, hlen, g0, g4, g9, g10]) l1]
  rw [G_add (m := (A : Int)) (n := (N : Int)) (by simp [Fr.g_s, Fr.length_s, hlen, g0, g4, g9, g10]) (by simp [Fr.g_s, Fr.length_s, hlen, g0, g4, g9, g10]), hw]
  rw [G_slc (a := va) (l := x0l) (c := vc) (a2 := b5) (n := N) (c2 := d5) (vl := some (.int .i64 (A : Int))) (vh := some (.int .i64 ((A + N : Nat) : Int))) (by simp [Fr.g_s, Fr.length_s, hlen, g0, g4, g9, g10]) (evO_t (by simp [Fr.g_s, Fr.length_s, hlen, g0, g4, g9, g10])) (evO_t (by simp [Fr.g_s, Fr.length_s, hlen, g0, g4, g9, g10])) s5]
  rw [G_mov (v := (.ptr (some (wo, 0)))) (by simp [Fr.g_s, Fr.length_s, hlen, g0, g4, g9, g10])]
  rw [G_nil (p := (wo, 0)) (by simp [Fr.g_s, Fr.length_s, hlen, g0, g4, g9, g10])]
  rw [G_fld (o := wo) (i := 0) (by simp [Fr.g_s, Fr.length_s, hlen, g0, g4, g9, g10])]
  rw [G_ldL (o := wo) (i := 0 + 2) (v := lv) (by simp [Fr.g_s, Fr.length_s, hlen, g0, g4, g9, g10]) l2]
  rw [G_call2 (v := (.sl b5 N d5)) (w := (.sl lv.1 lv.2.1 lv.2.2)) (by simp [Fr.g_s, Fr.length_s, hlen, g0, g4, g9, g10]) (by simp [Fr.g_s, Fr.length_s, hlen, g0, g4, g9, g10]) c3]
  rw [G_end]
  rw [G_pick (v := (.bool true)) (by simp [Fr.g_s, Fr.length_s, hlen, g0, g4, g9, g10]) (by simp [Fr.g_s, Fr.length_s, hlen, g0, g4, g9, g10])]
  rw [G_mov (v := (.bool true)) (by simp [Fr.g_s, Fr.length_s, hlen, g0, g4, g9, g10])]
  rw [G_end]
  rw [show C3_1 = AC.ret from rfl, run_ret]
  have hr : F3.results = [.tmp 6] := rfl
  rw [hr]
  simp only [resOf, resK]
  have e6 : ∀ fr6 : Fr, Fr.g fr6 6 = some (.bool true) → ((fr6.g 6).bind fun v => some (v, M)).bind some = some (AVal.bool true, M) := fun fr6 h => by rw [h]; rfl
  exact e6 _ (by simp [Fr.g_s, Fr.length_s, hlen, g0, g4, g9, g10])
end
section
variable {M0 M M' : Mem} {role : Nat → Rj} {hs : List Nat} {cur : List (Option Nat)} {gs : List Gp} {ds : List Dt} {i h g : Nat} {x : Gp} {d : Dt}
theorem shown_C' (H : GS false KI M0 M role hs cur gs ds) (hi : hs[i]? = some h) (hc : cur[i]? = some (some g)) (hd : ds[g]? = some d) {a : Option (Nat × Nat)} {l : Nat} {c : Cap} {ys : List Int} (hy : M.ints .u8 a l c = some ys) :
    ∃ M' v, C 13 [.ptr (some (h, 0))] M = some (.sl v.1 v.2.1 v.2.2, M') ∧ M.Upto M' ∧ Own1 M' v d.B ∧ C 15 [.sl v.1 v.2.1 v.2.2, .sl a l c] M' = some (.bool (decide (d.B = ys)), M') := by
  obtain ⟨M1, v, e1, u1, o1, f1, z1⟩ := I_bytesF H hi hc hd
  obtain ⟨x, d', hx, hd'⟩ := H.at hc
  rw [hd] at hd'; cases hd'
  obtain ⟨_, _, hp, _⟩ := I_rd H hi hc hx hd
  have hsz := hp.sz
  have := o1.1
  exact ⟨M1, v, e1, u1, o1, EqBytes_C o1.ints (ints_upto hy u1) (by omega)⟩
end
theorem ForeignWindow_C {M : Mem} {a1 : Option (Nat × Nat)} {l1 : Nat} {c1 : Cap} {L : List Deed} {ba : Option (Nat × Nat)} {bl : Nat} {bc : Cap} {ps : List Int} {at_ n at2 n2 arg : Int} {cl : Bool} (hd : Deeds M a1 l1 c1 L) (hok : ∀ d ∈ L, DeedOk d) (hl : L.length ≤ 1048576) (hb : ∀ d ∈ L, d.2.2.length ≤ 1048576) (hp : PS M ba bl bc ps) (hn : -9223372036854775808 ≤ n ∧ n < 9223372036854775808) :
    ∃ M', C 3 [.sl ba bl bc, .agg [.int .i64 at_, .int .i64 n], .agg [.int .i64 at2, .int .i64 n2, .int .u64 arg, .sl a1 l1 c1, .bool cl]] M = some (.bool true, M') := by
  have hE := p3_0_eq C prog.meth ba bl bc at_ n at2 n2 arg a1 l1 c1 cl M
  obtain ⟨M1, e1, g1, u1, n1⟩ := alloc_at M ⟨[.int .i64 at_, .int .i64 n], .fixed⟩
  obtain ⟨M2, e2, g2, u2, n2'⟩ := alloc_at M1 ⟨[.int .i64 at2, .int .i64 n2, .int .u64 arg, .sl a1 l1 c1, .bool cl], .fixed⟩
  obtain ⟨Mw, cw⟩ := works23_C
  obtain ⟨pl, cc, hpl, hp1⟩ := Cut_C (hp.upto (u1.trans u2))
  have hxl := ints_length hp1.ints
  generalize ps.take 2048 = xs at hp1 hxl
  have G0 : GS false KI M2 M2 (fun _ => .other 0) [] [] [] [] := ⟨Mem.Upto.refl _, rfl, by simp, by simp, rfl, by simp, by simp⟩
  obtain ⟨M3, s, x, role3, nC, u3, H3, F3⟩ := I_new G0 (by simp) hp1.ints hpl
  have H3 : GS false KI M2 M3 role3 [s] [some 0] [x] [⟨xs, 64, 64, 0⟩] := H3
  obtain ⟨M4, e4, g4, u4, n4⟩ := alloc_at M3 ⟨[.sl a1 l1 c1, .sl none 0 (.known 0), .sl none 0 (.known 0), .int .i64 0, .int .i64 0, .int .u64 0], .fixed⟩
  have H4 := H3.ext u4
  have b1 := u2.get g1
  have b1_3 := u3.get b1
  have b2_3 := u3.get g2
  have b1_4 := u4.get b1_3
  have b2_4 := u4.get b2_3
  simp only [e1, e2] at hE
  rw [cw, Option.bind_some] at hE
  simp only [Option.bind_some, List.getElem?_cons_zero, List.getElem?_cons_succ, int?_int, AVal.bool?, AVal.ptr?, AVal.sl?, AVal.tup?, AVal.agg?, AVal.ifc?, AVal.fn?, AVal.str?, List.head?_cons, List.tail_cons, List.isEmpty_nil, cond_true, cond_false, Option.isNone_some, Option.isNone_none, Bool.not_true, Bool.not_false, decide_true, decide_false, beq_self_eq_true, bne_self_eq_false, Int.reduceBEq, Int.reduceBNe, Int.cast_ofNat_Int] at hE
  rw [cc, Option.bind_some] at hE
  simp only [Option.bind_some, List.getElem?_cons_zero, List.getElem?_cons_succ, int?_int, AVal.bool?, AVal.ptr?, AVal.sl?, AVal.tup?, AVal.agg?, AVal.ifc?, AVal.fn?, AVal.str?, List.head?_cons, List.tail_cons, List.isEmpty_nil, cond_true, cond_false, Option.isNone_some, Option.isNone_none, Bool.not_true, Bool.not_false, decide_true, decide_false, beq_self_eq_true, bne_self_eq_false, Int.reduceBEq, Int.reduceBNe, Int.cast_ofNat_Int] at hE
  rw [nC, Option.bind_some] at hE
  simp only [Option.bind_some, List.getElem?_cons_zero, List.getElem?_cons_succ, int?_int, AVal.bool?, AVal.ptr?, AVal.sl?, AVal.tup?, AVal.agg?, AVal.ifc?, AVal.fn?, AVal.str?, List.head?_cons, List.tail_cons, List.isEmpty_nil, cond_true, cond_false, Option.isNone_some, Option.isNone_none, Bool.not_true, Bool.not_false, decide_true, decide_false, beq_self_eq_true, bne_self_eq_false, Int.reduceBEq, Int.reduceBNe, Int.cast_ofNat_Int, bne_self_eq_false, ldL_at b2_3, e4, ldI_at b1_4, ldI_at b2_4] at hE
  obtain ⟨Mi, ci⟩ := within_C (at_ := at_) (len := pl) hn (by omega)
  by_cases hin : inR at_ n xs.length
  · obtain ⟨i1, i2, i3, i4⟩ := hin
    have hin' : inR at_ n pl := ⟨i1, i2, by omega, by omega⟩
    obtain ⟨A, rfl⟩ : ∃ m : Nat, at_ = (m : Int) := ⟨at_.toNat, by omega⟩
    obtain ⟨N, rfl⟩ : ∃ m : Nat, n = (m : Int) := ⟨n.toNat, by omega⟩
    obtain ⟨M5, role5, gs5, rv, f, l, ys, cL, H5, k1, k2, k3, k4, k5, k6, k7⟩ := Lend_wild (i := 0) (g := 0) (wo := M3.n) (arg := arg) H4 rfl rfl rfl (at_ := A) (n := N) (by show A + N ≤ xs.length; omega) g4 (extR_ge (Nat.le_refl _)) u3.1 (hd.upto (u1.trans u2)) hok hl hb
    have eC : oC [some 0] 1 0 0 = [some 0] := by simp [oC]
    have eG : oG [some 0] 1 0 = 0 := by simp [oG]
    have eD : ∀ d : Dt, oD [some 0] [d] 0 d = [d] := fun d => by simp [oD]
    have eE : ∀ d : Dt, oE [some 0] 0 d = d := fun d => by simp [oE]
    simp only [List.length_singleton, eC, eG, eD, eE, List.set_cons_zero] at H5
    have H5 : GS false KI M2 M5 role5 [s] [some 0] gs5 [⟨xs.take A ++ (ys ++ xs.drop (A + N)), 64, 64, 0⟩] := H5
    have hBl : (xs.take A ++ (ys ++ xs.drop (A + N))).length = xs.length := by simp; omega
    obtain ⟨M6, v, c6, u6, o6, f6, z6⟩ := I_bytesF H5 (i := 0) (g := 0) rfl rfl rfl
    have H6 := H5.ext u6
    have b1_6 := H6.up.get b1
    have b2_6 := H6.up.get g2
    have g6 := u6.get k2
    have hp6 := hp1.upto H6.up
    have hvl : v.2.1 = pl := by rw [← hxl, ← hBl]; exact o6.1.symm
    have hwi : IntKind.wrap .i64 ((A : Int) + (N : Int)) = ((A + N : Nat) : Int) := by rw [wrap_i64 (by omega) (by omega)]; omega
    obtain ⟨a2, c2', s1, s2⟩ := hp6.sub (kl := .i64) (kh := .i64) (i := A) (n := N) (by omega)
    have k3' : Own1 M6 f ((xs.drop A).take N) := k3.upto u6
    have hfl := k3'.1
    have hxN : ((xs.drop A).take N).length = N := by simp; omega
    have c7 := EqBytes_C (M := M6) k3'.ints s2 (by omega)
    have hlenne : (((v.2.1 : Nat) : Int) != ((pl : Nat) : Int)) = false := by rw [hvl]; simp
    rw [cL, Option.bind_some] at hE
    simp only [Option.bind_some, List.getElem?_cons_zero, List.getElem?_cons_succ, int?_int, AVal.bool?, AVal.ptr?, AVal.sl?, AVal.tup?, AVal.agg?, AVal.ifc?, AVal.fn?, AVal.str?, List.head?_cons, List.tail_cons, List.isEmpty_nil, cond_true, cond_false, Option.isNone_some, Option.isNone_none, Bool.not_true, Bool.not_false, decide_true, decide_false, beq_self_eq_true, bne_self_eq_false, Int.reduceBEq, Int.reduceBNe, Int.cast_ofNat_Int] at hE
    rw [c6, Option.bind_some] at hE
    simp only [Option.bind_some, List.getElem?_cons_zero, List.getElem?_cons_succ, int?_int, AVal.bool?, AVal.ptr?, AVal.sl?, AVal.tup?, AVal.agg?, AVal.ifc?, AVal.fn?, AVal.str?, List.head?_cons, List.tail_cons, List.isEmpty_nil, cond_true, cond_false, Option.isNone_some, Option.isNone_none, Bool.not_true, Bool.not_false, decide_true, decide_false, beq_self_eq_true, bne_self_eq_false, Int.reduceBEq, Int.reduceBNe, Int.cast_ofNat_Int, ldI_at b1_6] at hE
    rw [ci, Option.bind_some] at hE
    simp only [Option.bind_some, List.getElem?_cons_zero, List.getElem?_cons_succ, int?_int, AVal.bool?, AVal.ptr?, AVal.sl?, AVal.tup?, AVal.agg?, AVal.ifc?, AVal.fn?, AVal.str?, List.head?_cons, List.tail_cons, List.isEmpty_nil, cond_true, cond_false, Option.isNone_some, Option.isNone_none, Bool.not_true, Bool.not_false, decide_true, decide_false, beq_self_eq_true, bne_self_eq_false, Int.reduceBEq, Int.reduceBNe, Int.cast_ofNat_Int, hin', decide_true, Bool.not_true, bne_self_eq_false, ldI_at g6, ldL_at g6, ldI_at b2_6, hwi] at hE
    rw [s1, c7, Option.bind_some] at hE
    simp only [Option.bind_some, List.getElem?_cons_zero, List.getElem?_cons_succ, int?_int, AVal.bool?, AVal.ptr?, AVal.sl?, AVal.tup?, AVal.agg?, AVal.ifc?, AVal.fn?, AVal.str?, List.head?_cons, List.tail_cons, List.isEmpty_nil, cond_true, cond_false, Option.isNone_some, Option.isNone_none, Bool.not_true, Bool.not_false, decide_true, decide_false, beq_self_eq_true, bne_self_eq_false, Int.reduceBEq, Int.reduceBNe, Int.cast_ofNat_Int, decide_true, Bool.not_true, hlenne] at hE
    have r := window_end (bx := M.n) (wo := M3.n) (va := v.1) (vl := v.2.1) (vc := v.2.2) (A := A) (N := N) (lv := l) hp6 (PS.own o6 z6) b1_6 g6 (by omega) hvl.symm (by omega) k1 (k4.upto u6).ints rfl
    exact ⟨M6, c3 (hE.trans r)⟩
  · have hin' : ¬ inR at_ n pl := by rw [← hxl]; exact hin
    obtain ⟨M5, cL, u5⟩ := Lend_out (i := 0) (g := 0) (t := 35) (v := .ptr (some (M3.n, 0))) (arg := arg) H4 rfl rfl rfl hn hin
    have H5 := H4.ext u5
    obtain ⟨M6, v, c6, u6, o6, c7⟩ := shown_C' H5 (i := 0) (g := 0) rfl rfl rfl (hp1.upto H5.up).ints
    have b1_6 := u6.get (H5.up.get b1)
    have g6 := u6.get (u5.get g4)
    have hE1 := p3_1_eq C prog.meth ba pl bc 20 (some (M3.n, 0)) v.1 v.2.1 v.2.2 M6
    rw [cL, Option.bind_some] at hE
    simp only [Option.bind_some, List.getElem?_cons_zero, List.getElem?_cons_succ, int?_int, AVal.bool?, AVal.ptr?, AVal.sl?, AVal.tup?, AVal.agg?, AVal.ifc?, AVal.fn?, AVal.str?, List.head?_cons, List.tail_cons, List.isEmpty_nil, cond_true, cond_false, Option.isNone_some, Option.isNone_none, Bool.not_true, Bool.not_false, decide_true, decide_false, beq_self_eq_true, bne_self_eq_false, Int.reduceBEq, Int.reduceBNe, Int.cast_ofNat_Int] at hE
    rw [c6, Option.bind_some] at hE
    simp only [Option.bind_some, List.getElem?_cons_zero, List.getElem?_cons_succ, int?_int, AVal.bool?, AVal.ptr?, AVal.sl?, AVal.tup?, AVal.agg?, AVal.ifc?, AVal.fn?, AVal.str?, List.head?_cons, List.tail_cons, List.isEmpty_nil, cond_true, cond_false, Option.isNone_some, Option.isNone_none, Bool.not_true, Bool.not_false, decide_true, decide_false, beq_self_eq_true, bne_self_eq_false, Int.reduceBEq, Int.reduceBNe, Int.cast_ofNat_Int, ldI_at b1_6] at hE
    rw [ci, Option.bind_some] at hE
    simp only [Option.bind_some, List.getElem?_cons_zero, List.getElem?_cons_succ, int?_int, AVal.bool?, AVal.ptr?, AVal.sl?, AVal.tup?, AVal.agg?, AVal.ifc?, AVal.fn?, AVal.str?, List.head?_cons, List.tail_cons, List.isEmpty_nil, cond_true, cond_false, Option.isNone_some, Option.isNone_none, Bool.not_true, Bool.not_false, decide_true, decide_false, beq_self_eq_true, bne_self_eq_false, Int.reduceBEq, Int.reduceBNe, Int.cast_ofNat_Int, hin', decide_false, Bool.not_false] at hE
    simp only [Option.bind_some, List.getElem?_cons_zero, List.getElem?_cons_succ, int?_int, AVal.bool?, AVal.ptr?, AVal.sl?, AVal.tup?, AVal.agg?, AVal.ifc?, AVal.fn?, AVal.str?, List.head?_cons, List.tail_cons, List.isEmpty_nil, cond_true, cond_false, Option.isNone_some, Option.isNone_none, Bool.not_true, Bool.not_false, decide_true, decide_false, beq_self_eq_true, bne_self_eq_false, Int.reduceBEq, Int.reduceBNe, Int.cast_ofNat_Int, beq_self_eq_true, Nat.zero_add, ldI_at g6] at hE1
    rw [c7, Option.bind_some] at hE1
    simp only [Option.bind_some, List.getElem?_cons_zero, List.getElem?_cons_succ, int?_int, AVal.bool?, AVal.ptr?, AVal.sl?, AVal.tup?, AVal.agg?, AVal.ifc?, AVal.fn?, AVal.str?, List.head?_cons, List.tail_cons, List.isEmpty_nil, cond_true, cond_false, Option.isNone_some, Option.isNone_none, Bool.not_true, Bool.not_false, decide_true, decide_false, beq_self_eq_true, bne_self_eq_false, Int.reduceBEq, Int.reduceBNe, Int.cast_ofNat_Int, decide_true] at hE1
    exact ⟨M6, c3 (hE.trans hE1)⟩
theorem ForeignWindow_law : ∀ avs M, M.Whole → okL M.n avs → ShowsArgs M [(false, [.sl 1 [.int .u8]]), (true, [.int .i64, .int .i64]), (true, [.int .i64, .int .i64, .int .u64, .sl 40 [.int .u8, .int .i64, .sl 1 [.int .u8]], .bool])] avs → (∀ L, L = 1048576 → RoNew L Mem.empty M) → ∃ M', C 3 avs M = some (.bool true, M') := by
  intro avs M hM hok h hq
  simp only [ShowsArgs, ShowsArg] at h
  obtain ⟨v, _, rfl, ⟨t, ht, hv⟩, w, _, rfl, ⟨ws, rfl, hw⟩, z, _, rfl, ⟨zs, rfl, hz⟩, rfl⟩ := h
  obtain rfl : t = .sl 1 [.int .u8] := by simpa using ht.symm
  obtain ⟨a, l, c, xs, rfl, hx, hl, hwf⟩ := hv.ints
  simp only [ShowsR] at hw hz
  obtain ⟨y0, y0', rfl, hy0, y1, y1', rfl, hy1, rfl⟩ := hw
  obtain ⟨v0, w0, rfl, hb0, v1, w1, rfl, hb1, v2, w2, rfl, hb2, v3, w3, rfl, hb3, v4, w4, rfl, hb4, rfl⟩ := hz
  simp only [Shows] at hy0 hy1 hb0 hb1 hb2 hb4
  obtain ⟨at_, rfl, _⟩ := hy0
  obtain ⟨n, rfl, hn⟩ := hy1
  obtain ⟨at2, rfl, _⟩ := hb0
  obtain ⟨n2, rfl, _⟩ := hb1
  obtain ⟨arg, rfl, _⟩ := hb2
  obtain ⟨cl, rfl⟩ := hb4
  obtain ⟨a1, l1, c1, rfl, hl1⟩ := hb3.form
  have hl1' := rows_le hb3 (hq _ rfl) (by simp)
  obtain ⟨L, hd, hall⟩ := deeds_of (fun i hi => hb3.row hi) (hq _ rfl)
  have hlen := hd.len
  exact ForeignWindow_C hd (fun d hd => (hall d hd).1) (by omega) (fun d hd => (hall d hd).2) (PS.arg hv hx) (i64_bounds hn)
end Go.Proofs.Ytjcakemgghfflaa.M
