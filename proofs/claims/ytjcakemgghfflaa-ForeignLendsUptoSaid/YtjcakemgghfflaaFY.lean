/- ForeignLends. -/
import Derived.Test.YtjcakemgghfflaaFV
set_option linter.unusedVariables false
set_option linter.unusedSimpArgs false
set_option linter.unnecessarySimpa false
set_option maxRecDepth 100000
namespace Go.Proofs.Ytjcakemgghfflaa.M
open Go.Abs Go.RowKit

def encH (h : Nat) : List AVal := [.ptr (some (h, 0))]
theorem encH1 : Enc 1 encH := fun _ => rfl
theorem row_ld {M : Mem} {v : SlV} {hs : List Nat} (h : Row M 1 encH v.1 v.2.1 v.2.2 hs) {k : Nat} (hk : k < v.2.1) : ∃ p hd, slPtr v.1 v.2.2 = some p ∧ hs[k]? = some hd ∧ M.ldP p.1 (p.2 + k) = some (some (hd, 0)) ∧ M.ld p.1 (p.2 + k) = some (.ptr (some (hd, 0))) := by
  have hl := h.length
  obtain ⟨p, h1, h2⟩ := h.sl.get encH1 (by omega) (i := k) (by omega)
  have h3 := h2 0 (by omega)
  simp only [encH, List.getElem?_cons_zero, Nat.add_zero, Nat.mul_one] at h3
  exact ⟨p, hs[k], h1, List.getElem?_eq_getElem (by omega), by unfold Mem.ldP; rw [h3]; rfl, h3⟩
/-- The lists of clones. -/
structure LF (M0 M : Mem) (role : Nat → Rj) (cs rc : List Nat) (a b : SlV) : Prop where
  ra : Row M 1 encH a.1 a.2.1 a.2.2 cs
  rb : Row M 1 encH b.1 b.2.1 b.2.2 rc
  fa : ∀ o ∈ fpOf a.1, M0.n ≤ o ∧ o < M.n ∧ role o = .other 1
  fb : ∀ o ∈ fpOf b.1, M0.n ≤ o ∧ o < M.n ∧ role o = .other 2
structure JF (M0 M : Mem) (role : Nat → Rj) (h r : Nat) (cs rc : List Nat) (cur : List (Option Nat)) (gs rs : List Gp) (ds : List Dt) (a b : SlV) : Prop where
  I : GS false KI M0 M role (h :: cs) cur gs ds
  R : GS true KR M0 M role (r :: rc) cur rs ds
  L : LF M0 M role cs rc a b
  c0 : ∃ g, cur[0]? = some (some g)
def JX (M0 M : Mem) (h r : Nat) (n : Nat) (a b : SlV) : Prop := ∃ role cs rc cur gs rs ds, JF M0 M role h r cs rc cur gs rs ds a b ∧ cur.length ≤ n
/-- .. and a box. -/
def JB (M0 M : Mem) (h r : Nat) (n : Nat) (a b : SlV) (bx : Nat) (cells : List AVal) : Prop := ∃ role cs rc cur gs rs ds, JF M0 M role h r cs rc cur gs rs ds a b ∧ cur.length ≤ n ∧ M.get bx = some ⟨cells, .fixed⟩ ∧ role bx = .other 0
section
variable {M0 M M' : Mem} {role role' : Nat → Rj} {h r : Nat} {cs rc : List Nat} {cur : List (Option Nat)} {gs rs : List Gp} {ds : List Dt} {a b : SlV}
theorem LF.old (L : LF M0 M role cs rc a b) (hn : M.n ≤ M'.n) (hg : ∀ y, y < M.n → (role y).side = none → M'.get y = M.get y) (hr : ∀ y, y < M.n → role' y = role y) : LF M0 M' role' cs rc a b := by
  refine ⟨L.ra.same (fun o ho => hg o (L.fa o ho).2.1 (by rw [(L.fa o ho).2.2]; rfl)), L.rb.same (fun o ho => hg o (L.fb o ho).2.1 (by rw [(L.fb o ho).2.2]; rfl)), fun o ho => ?_, fun o ho => ?_⟩
  · obtain ⟨h1, h2, h3⟩ := L.fa o ho
    exact ⟨h1, by omega, (hr o h2).trans h3⟩
  · obtain ⟨h1, h2, h3⟩ := L.fb o ho
    exact ⟨h1, by omega, (hr o h2).trans h3⟩
theorem LF.fre {s : Bool} (L : LF M0 M role cs rc a b) (hf : Fj s role role' M M') : LF M0 M' role' cs rc a b := L.old hf.n (fun y hy h => hf.get y hy (by rw [h]; exact nofun)) hf.rl
theorem LF.ext (L : LF M0 M role cs rc a b) (hu : M.Upto M') : LF M0 M' (extR role M.n) cs rc a b := L.old hu.1 (fun y hy _ => hu.2 y hy) (fun y hy => extR_lt hy)
theorem LF.push (L : LF M0 M role cs rc a b) (ha : a.2.1 < 2 ^ 40) (hb : b.2.1 < 2 ^ 40) (h r : Nat) (hM0 : M0.n ≤ M.n) : ∃ M1 M2 role',
    (∀ {β : Type} (K : Option (Nat × Nat) → Nat → Cap → Mem → Option β), appK false 1 8 (M.alloc ⟨[.ptr (some (h, 0))], .fixed⟩) a.1 a.2.1 a.2.2 (.sl (some (M.n, 0)) 1 (.known 1)) K = K (some (M.n + 1, 0)) (a.2.1 + 1) (.unk 0) M1) ∧
    (∀ {β : Type} (K : Option (Nat × Nat) → Nat → Cap → Mem → Option β), appK false 1 8 (M1.alloc ⟨[.ptr (some (r, 0))], .fixed⟩) b.1 b.2.1 b.2.2 (.sl (some (M1.n, 0)) 1 (.known 1)) K = K (some (M1.n + 1, 0)) (b.2.1 + 1) (.unk 0) M2) ∧
    LF M0 M2 role' (cs ++ [h]) (rc ++ [r]) (some (M.n + 1, 0), a.2.1 + 1, .unk 0) (some (M1.n + 1, 0), b.2.1 + 1, .unk 0) ∧ (∀ y, y < M.n → role' y = role y) ∧ (∀ y, y < M.n → role y ≠ .other 1 → role y ≠ .other 2 → M2.get y = M.get y) ∧ M.n ≤ M2.n ∧ (∀ y, y < M0.n → M2.get y = M.get y) := by
  obtain ⟨M1, q1, r1, n1, b1, g1⟩ := L.ra.push (bytes := 8) (y := h) (cs := [.ptr (some (h, 0))]) encH1 (by omega) rfl (by omega)
  have nab : ∀ o ∈ fpOf b.1, o ∉ fpOf a.1 := fun o ho hm => by have h1 := (L.fa o hm).2.2; rw [(L.fb o ho).2.2] at h1; cases h1
  have rb1 : Row M1 1 encH b.1 b.2.1 b.2.2 rc := L.rb.same (fun o ho => b1.2 o (L.fb o ho).2.1 (nab o ho))
  obtain ⟨M2, q3, r3, n3, b3, g3⟩ := rb1.push (bytes := 8) (y := r) (cs := [.ptr (some (r, 0))]) encH1 (by omega) rfl (by omega)
  let R : Nat → Rj := fun y => if y < M.n then role y else if y = M.n + 1 then .other 1 else .other 2
  have rl : ∀ y, y < M.n → R y = role y := fun y hy => by
    show (if y < M.n then role y else _) = role y
    rw [if_pos hy]
  have all : ∀ y, y < M.n → y ∉ fpOf a.1 → y ∉ fpOf b.1 → M2.get y = M.get y := fun y hy h1 h2 => by
    rw [b3.2 y (by omega) h2, b1.2 y hy h1]
  refine ⟨M1, M2, R, q1, q3, ⟨r1.same (fun o ho => ?_), r3, fun o ho => ?_, fun o ho => ?_⟩, rl, fun y hy h1 h2 => all y hy (fun hm => h1 (L.fa y hm).2.2) (fun hm => h2 (L.fb y hm).2.2), by omega, fun y hy => all y (by omega) (fun hm => by have := (L.fa y hm).1; omega) (fun hm => by have := (L.fb y hm).1; omega)⟩
  · simp only [fpOf, List.mem_singleton] at ho
    subst ho
    exact b3.2 _ (by omega) (fun hm => by have := (L.fb _ hm).2.1; omega)
  · simp only [fpOf, List.mem_singleton] at ho
    subst ho
    refine ⟨by omega, by omega, ?_⟩
    show (if M.n + 1 < M.n then role (M.n + 1) else if M.n + 1 = M.n + 1 then Rj.other 1 else .other 2) = _
    rw [if_neg (by omega), if_pos rfl]
  · simp only [fpOf, List.mem_singleton] at ho
    subst ho
    refine ⟨by omega, by omega, ?_⟩
    show (if M1.n + 1 < M.n then role (M1.n + 1) else if M1.n + 1 = M.n + 1 then Rj.other 1 else .other 2) = _
    rw [if_neg (by omega), if_neg (by omega)]
theorem JF.ext (J : JF M0 M role h r cs rc cur gs rs ds a b) (hu : M.Upto M') : JF M0 M' (extR role M.n) h r cs rc cur gs rs ds a b := ⟨J.I.ext hu, J.R.ext hu, J.L.ext hu, J.c0⟩
theorem JF.lens (J : JF M0 M role h r cs rc cur gs rs ds a b) : cs.length + 1 = cur.length ∧ rc.length + 1 = cur.length ∧ a.2.1 = cs.length ∧ b.2.1 = cs.length := by
  have h1 := J.I.len
  have h2 := J.R.len
  have h3 := J.L.ra.length
  have h4 := J.L.rb.length
  simp only [List.length_cons] at h1 h2
  omega
/-- The clones are compared. -/
theorem show_loop {a1 : Option (Nat × Nat)} {l1 : Nat} {c1 : Cap} {i : Int} :
    ∀ (d k : Nat) (M : Mem) (role : Nat → Rj), k + d = a.2.1 → JF M0 M role h r cs rc cur gs rs ds a b →
    ∃ M' role', p7_8 C prog.meth a1 l1 c1 (some (h, 0)) (some (r, 0)) a.1 a.2.1 a.2.2 b.1 b.2.1 b.2.2 i (k : Int) M = p7_2 C prog.meth a1 l1 c1 (some (h, 0)) (some (r, 0)) a.1 a.2.1 a.2.2 b.1 b.2.1 b.2.2 (IntKind.wrap .i64 (i + 1)) M' ∧ JF M0 M' role' h r cs rc cur gs rs ds a b := by
  intro d
  induction d with
  | zero =>
    intro k M role hk J
    have hE := p7_8_eq C prog.meth a1 l1 c1 (some (h, 0)) (some (r, 0)) a.1 a.2.1 a.2.2 b.1 b.2.1 b.2.2 i (k : Int) M
    have q : ¬ ((k : Int) < (a.2.1 : Int)) := by omega
    simp only [q, decide_false, cond_false] at hE
    exact ⟨M, role, hE, J⟩
  | succ d ih =>
    intro k M role hk J
    have hE := p7_8_eq C prog.meth a1 l1 c1 (some (h, 0)) (some (r, 0)) a.1 a.2.1 a.2.2 b.1 b.2.1 b.2.2 i (k : Int) M
    obtain ⟨j1, j2, j3, j4⟩ := J.lens
    have hfew := J.I.few
    have q : ((k : Int) < (a.2.1 : Int)) := by omega
    have c0 : (0 : Int) ≤ (k : Int) := by omega
    have c2 : Nat.blt k a.2.1 = true := Mem.blt_iff.2 (by omega)
    have c3 : Nat.blt k b.2.1 = true := Mem.blt_iff.2 (by omega)
    have hw : IntKind.wrap .i64 ((k : Int) + 1) = ((k + 1 : Nat) : Int) := by rw [wrap_i64 (by omega) (by omega)]; rfl
    obtain ⟨c, hc⟩ : ∃ c, cur[k + 1]? = some c := ⟨_, List.getElem?_eq_getElem (by omega)⟩
    obtain ⟨p, x, p1, p2, p3, p4⟩ := row_ld J.L.ra (k := k) (by omega)
    obtain ⟨p', x', p1', p2', _, p4'⟩ := row_ld J.L.rb (k := k) (by omega)
    obtain ⟨M1, v, e1, u1, o1, f1⟩ := I_bytes J.I (i := k + 1) (by simpa using p2) hc
    have J1 := J.ext u1
    obtain ⟨q0, x0, q1, q2, q3, q4⟩ := row_ld J1.L.rb (k := k) (by omega)
    rw [p1'] at q1; cases q1
    rw [p2'] at q2; cases q2
    obtain ⟨M2, v2, e2, u2, o2, f2⟩ := R_bytes J1.R (i := k + 1) (by simpa using p2') hc
    have J2 := J1.ext u2
    have hB : (bytesO ds c).length ≤ 2048 := by
      cases c with
      | none => exact Nat.zero_le _
      | some g =>
        obtain ⟨xx, d, hx, hd⟩ := J.I.at hc
        obtain ⟨_, _, hp, _⟩ := I_rd J.I (i := k + 1) (by simpa using p2) hc hx hd
        simp only [bytesO, hd]; exact hp.sz
    have hv1 := o1.1
    have e3 := EqBytes_C (M := M2) (o1.upto u2).ints o2.ints (by omega)
    have e4 := I_count J2.I (i := k + 1) (by simpa using p2) hc
    have e5 := R_count J2.R (i := k + 1) (by simpa using p2') hc
    obtain ⟨t, y, t1, t2, t3, t4⟩ := row_ld J2.L.ra (k := k) (by omega)
    rw [p1] at t1; cases t1
    rw [p2] at t2; cases t2
    obtain ⟨t', y', t1', t2', t3', t4'⟩ := row_ld J2.L.rb (k := k) (by omega)
    rw [p1'] at t1'; cases t1'
    rw [p2'] at t2'; cases t2'
    have s1 := still1 p4'
    have s2 := still1 t4'
    simp only [Option.bind_some, List.getElem?_cons_zero, List.getElem?_cons_succ, int?_int, AVal.bool?, AVal.ptr?, AVal.sl?, AVal.tup?, AVal.agg?, AVal.ifc?, AVal.fn?, AVal.str?, List.head?_cons, List.tail_cons, List.isEmpty_nil, cond_true, cond_false, Option.isNone_some, Option.isNone_none, Bool.not_true, Bool.not_false, decide_true, decide_false, beq_self_eq_true, bne_self_eq_false, Int.reduceBEq, Int.reduceBNe, Int.cast_ofNat_Int, q, c0, c2, c3, Int.toNat_natCast, Nat.mul_one, p1, p3, p1'] at hE
    rw [e1, Option.bind_some] at hE
    simp only [Option.bind_some, List.getElem?_cons_zero, List.getElem?_cons_succ, int?_int, AVal.bool?, AVal.ptr?, AVal.sl?, AVal.tup?, AVal.agg?, AVal.ifc?, AVal.fn?, AVal.str?, List.head?_cons, List.tail_cons, List.isEmpty_nil, cond_true, cond_false, Option.isNone_some, Option.isNone_none, Bool.not_true, Bool.not_false, decide_true, decide_false, beq_self_eq_true, bne_self_eq_false, Int.reduceBEq, Int.reduceBNe, Int.cast_ofNat_Int, q3] at hE
    rw [e2, Option.bind_some] at hE
    simp only [Option.bind_some, List.getElem?_cons_zero, List.getElem?_cons_succ, int?_int, AVal.bool?, AVal.ptr?, AVal.sl?, AVal.tup?, AVal.agg?, AVal.ifc?, AVal.fn?, AVal.str?, List.head?_cons, List.tail_cons, List.isEmpty_nil, cond_true, cond_false, Option.isNone_some, Option.isNone_none, Bool.not_true, Bool.not_false, decide_true, decide_false, beq_self_eq_true, bne_self_eq_false, Int.reduceBEq, Int.reduceBNe, Int.cast_ofNat_Int] at hE
    rw [e3, Option.bind_some] at hE
    simp only [Option.bind_some, List.getElem?_cons_zero, List.getElem?_cons_succ, int?_int, AVal.bool?, AVal.ptr?, AVal.sl?, AVal.tup?, AVal.agg?, AVal.ifc?, AVal.fn?, AVal.str?, List.head?_cons, List.tail_cons, List.isEmpty_nil, cond_true, cond_false, Option.isNone_some, Option.isNone_none, Bool.not_true, Bool.not_false, decide_true, decide_false, beq_self_eq_true, bne_self_eq_false, Int.reduceBEq, Int.reduceBNe, Int.cast_ofNat_Int, decide_true, Bool.not_true, t3] at hE
    rw [e4, Option.bind_some] at hE
    simp only [Option.bind_some, List.getElem?_cons_zero, List.getElem?_cons_succ, int?_int, AVal.bool?, AVal.ptr?, AVal.sl?, AVal.tup?, AVal.agg?, AVal.ifc?, AVal.fn?, AVal.str?, List.head?_cons, List.tail_cons, List.isEmpty_nil, cond_true, cond_false, Option.isNone_some, Option.isNone_none, Bool.not_true, Bool.not_false, decide_true, decide_false, beq_self_eq_true, bne_self_eq_false, Int.reduceBEq, Int.reduceBNe, Int.cast_ofNat_Int, t3'] at hE
    rw [e5, Option.bind_some] at hE
    simp only [Option.bind_some, List.getElem?_cons_zero, List.getElem?_cons_succ, int?_int, AVal.bool?, AVal.ptr?, AVal.sl?, AVal.tup?, AVal.agg?, AVal.ifc?, AVal.fn?, AVal.str?, List.head?_cons, List.tail_cons, List.isEmpty_nil, cond_true, cond_false, Option.isNone_some, Option.isNone_none, Bool.not_true, Bool.not_false, decide_true, decide_false, beq_self_eq_true, bne_self_eq_false, Int.reduceBEq, Int.reduceBNe, Int.cast_ofNat_Int, s1, s2, bne_self_eq_false, hw] at hE
    obtain ⟨M', role', r1, r2⟩ := ih (k + 1) M2 _ (by omega) J2
    exact ⟨M', role', hE.trans r1, r2⟩
/-- A clone, on both sides. -/
theorem clone_step {a1 : Option (Nat × Nat)} {l1 : Nat} {c1 : Cap} {i : Int} {n bx : Nat} {cells : List AVal} (hn : n < 100) (J : JB M0 M h r n a b bx cells) :
    ∃ M' a' b', p7_4 C prog.meth a1 l1 c1 (some (h, 0)) (some (r, 0)) a.1 a.2.1 a.2.2 b.1 b.2.1 b.2.2 i bx M = p7_5 C prog.meth a1 l1 c1 (some (h, 0)) (some (r, 0)) a'.1 a'.2.1 a'.2.2 b'.1 b'.2.1 b'.2.2 i bx M' ∧ JB M0 M' h r (n + 1) a' b' bx cells := by
  obtain ⟨role, cs, rc, cur, gs, rs, ds, J, hlen, hg, hr⟩ := J
  have hE := p7_4_eq C prog.meth a1 l1 c1 (some (h, 0)) (some (r, 0)) a.1 a.2.1 a.2.2 b.1 b.2.1 b.2.2 i bx M
  obtain ⟨g, hc⟩ := J.c0
  obtain ⟨j1, j2, j3, j4⟩ := J.lens
  have hbl := Mem.get_lt hg
  obtain ⟨M1, h', role1, c2, I1, F1⟩ := I_clone J.I (i := 0) rfl hc (by omega)
  have R1 := J.R.fre F1 (by simp) I1.up
  have L1 := J.L.fre F1
  obtain ⟨M2, r', role2, c3, R2, F2⟩ := R_clone R1 (i := 0) rfl hc (by omega)
  have I2 := I1.fre F2 (by simp) R2.up
  have L2 := L1.fre F2
  have n1 := F1.n
  have n2 := F2.n
  have hg2 : M2.get bx = some ⟨cells, .fixed⟩ := by
    rw [F2.get bx (by omega) (by rw [F1.rl bx hbl, hr]; exact nofun), F1.get bx hbl (by rw [hr]; exact nofun)]; exact hg
  have hr2 : role2 bx = .other 0 := by rw [F2.rl bx (by omega), F1.rl bx hbl]; exact hr
  have hE6 := p7_6_eq C prog.meth a1 l1 c1 (some (h, 0)) (some (r, 0)) a.1 a.2.1 a.2.2 b.1 b.2.1 b.2.2 i bx (some (h', 0)) (some (r', 0)) M2
  obtain ⟨M3, M4, role4, q1, q2, L4, q3, q4, q5, q6⟩ := L2.push (by omega) (by omega) h' r' (I2.up.1)
  have hu : M0.Upto M4 := ⟨by have := I2.up.1; omega, fun y hy => by rw [q6 y hy, I2.up.2 y hy]⟩
  simp only [Option.bind_some, List.getElem?_cons_zero, List.getElem?_cons_succ, int?_int, AVal.bool?, AVal.ptr?, AVal.sl?, AVal.tup?, AVal.agg?, AVal.ifc?, AVal.fn?, AVal.str?, List.head?_cons, List.tail_cons, List.isEmpty_nil, cond_true, cond_false, Option.isNone_some, Option.isNone_none, Bool.not_true, Bool.not_false, decide_true, decide_false, beq_self_eq_true, bne_self_eq_false, Int.reduceBEq, Int.reduceBNe, Int.cast_ofNat_Int] at hE
  rw [c2, Option.bind_some] at hE
  simp only [Option.bind_some, List.getElem?_cons_zero, List.getElem?_cons_succ, int?_int, AVal.bool?, AVal.ptr?, AVal.sl?, AVal.tup?, AVal.agg?, AVal.ifc?, AVal.fn?, AVal.str?, List.head?_cons, List.tail_cons, List.isEmpty_nil, cond_true, cond_false, Option.isNone_some, Option.isNone_none, Bool.not_true, Bool.not_false, decide_true, decide_false, beq_self_eq_true, bne_self_eq_false, Int.reduceBEq, Int.reduceBNe, Int.cast_ofNat_Int] at hE
  rw [c3, Option.bind_some] at hE
  simp only [Option.bind_some, List.getElem?_cons_zero, List.getElem?_cons_succ, int?_int, AVal.bool?, AVal.ptr?, AVal.sl?, AVal.tup?, AVal.agg?, AVal.ifc?, AVal.fn?, AVal.str?, List.head?_cons, List.tail_cons, List.isEmpty_nil, cond_true, cond_false, Option.isNone_some, Option.isNone_none, Bool.not_true, Bool.not_false, decide_true, decide_false, beq_self_eq_true, bne_self_eq_false, Int.reduceBEq, Int.reduceBNe, Int.cast_ofNat_Int, bne_self_eq_false] at hE
  rw [q1, q2] at hE6
  refine ⟨M4, _, _, hE.trans hE6, role4, cs ++ [h'], rc ++ [r'], cur ++ [some g], gs, rs, ds, ⟨I2.frame hu (fun y hy hs => q4 y hy (fun e => by rw [e] at hs; cases hs) (fun e => by rw [e] at hs; cases hs)) q3, R2.frame hu (fun y hy hs => q4 y hy (fun e => by rw [e] at hs; cases hs) (fun e => by rw [e] at hs; cases hs)) q3, L4, ⟨g, ?_⟩⟩, by simp; omega, ?_, ?_⟩
  · rw [List.getElem?_append_left (by omega)]; exact hc
  · rw [q4 bx (by omega) (by rw [hr2]; exact nofun) (by rw [hr2]; exact nofun)]; exact hg2
  · rw [q3 bx (by omega)]; exact hr2
/-- A loan, on both sides. -/
theorem loan_step {a1 : Option (Nat × Nat)} {l1 : Nat} {c1 : Cap} {i : Int} {n bx : Nat} {at_ N arg : Int} {cl : Bool} {d1 : Option (Nat × Nat)} {dl : Nat} {dc : Cap} {L : List Deed} (hd : Deeds M0 d1 dl dc L) (hok : ∀ d ∈ L, DeedOk d) (hl : L.length ≤ 1048576) (hb : ∀ d ∈ L, d.2.2.length ≤ 1048576) (hN : -9223372036854775808 ≤ N ∧ N < 9223372036854775808)
    (J : JB M0 M h r n a b bx [.int .i64 at_, .int .i64 N, .int .u64 arg, .sl d1 dl dc, .bool cl]) :
    ∃ M', p7_5 C prog.meth a1 l1 c1 (some (h, 0)) (some (r, 0)) a.1 a.2.1 a.2.2 b.1 b.2.1 b.2.2 i bx M = p7_7 C prog.meth a1 l1 c1 (some (h, 0)) (some (r, 0)) a.1 a.2.1 a.2.2 b.1 b.2.1 b.2.2 i M' ∧ JX M0 M' h r n a b := by
  obtain ⟨role, cs, rc, cur, gs, rs, ds, J, hlen, hg, hr⟩ := J
  have hE := p7_5_eq C prog.meth a1 l1 c1 (some (h, 0)) (some (r, 0)) a.1 a.2.1 a.2.2 b.1 b.2.1 b.2.2 i bx M
  obtain ⟨g, hc⟩ := J.c0
  obtain ⟨x, d, hx, hdd⟩ := J.I.at hc
  obtain ⟨_, _, hp, _⟩ := I_rd J.I (i := 0) rfl hc hx hdd
  have hsz := hp.sz
  have hbl := Mem.get_lt hg
  obtain ⟨M1, sa, sl, sc, rows, e1, u1, hO⟩ := Script_C (hd.upto J.I.up) hok (by omega)
  have J1 := J.ext u1
  have hg1 := u1.get hg
  have hr1 : extR role M.n bx = .other 0 := by rw [extR_lt hbl]; exact hr
  have hro : ∀ y, M.n ≤ y → y < M1.n → extR role M.n y = .other 0 := fun y h0 h1 => extR_ge h0
  have both : ∃ M2 role2 cur2 gs2 ds2 vv ee, C 12 [.ptr (some (h, 0)), .agg [.int .i64 at_, .int .i64 N], .ifc (some 88) (.agg [.sl sa sl sc]), .int .u64 arg] M1 = some (.tup [.int .u64 vv, .int .i64 ee], M2) ∧ GS false KI M0 M2 role2 (h :: cs) cur2 gs2 ds2 ∧ Fj false (extR role M.n) role2 M1 M2 ∧ cur2.length = cur.length ∧ (∃ g2, cur2[0]? = some (some g2)) ∧
      (∀ (M3 : Mem) role3 rs, GS true KR M0 M3 role3 (r :: rc) cur rs ds → ∃ M4 role4 rs4, C 26 [.ptr (some (r, 0)), .agg [.int .i64 at_, .int .i64 N], .sl d1 dl dc, .int .u64 arg] M3 = some (.tup [.int .u64 vv, .int .i64 ee], M4) ∧ GS true KR M0 M4 role4 (r :: rc) cur2 rs4 ds2 ∧ Fj true role3 role4 M3 M4) := by
    by_cases hin : inR at_ N d.B.length
    · obtain ⟨i1, i2, i3, i4⟩ := hin
      obtain ⟨A, rfl⟩ : ∃ m : Nat, at_ = (m : Int) := ⟨at_.toNat, by omega⟩
      obtain ⟨K, rfl⟩ : ∃ m : Nat, N = (m : Int) := ⟨N.toNat, by omega⟩
      obtain ⟨M2, role2, gs2, q1, q2, q3⟩ := Lend_script (arg := arg) J1.I (i := 0) rfl hc hdd (at_ := A) (n := K) (by omega) hO hro hok hl hb
      refine ⟨M2, role2, _, gs2, _, _, _, q1, q2, q3, oC_length _ _ _ _, ⟨_, o_cur hc⟩, fun M3 role3 rs R3 => ?_⟩
      obtain ⟨M4, role4, rs4, w1, w2, w3⟩ := RLend_in (arg := arg) R3 (i := 0) rfl hc hdd (at_ := A) (n := K) (by omega) hd hok hl hb
      exact ⟨M4, role4, rs4, w1, w2, w3⟩
    · obtain ⟨M2, q1, q2⟩ := Lend_out (t := 88) (v := .agg [.sl sa sl sc]) (arg := arg) J1.I (i := 0) rfl hc hdd hN hin
      refine ⟨M2, _, cur, gs, ds, _, _, q1, J1.I.ext q2, Fj.ext false _ q2, rfl, ⟨g, hc⟩, fun M3 role3 rs R3 => ?_⟩
      obtain ⟨M4, w1, w2⟩ := RLend_out (a1 := d1) (l1 := dl) (c1 := dc) (arg := arg) R3 (i := 0) rfl hc hdd hN hin
      exact ⟨M4, _, rs, w1, R3.ext w2, Fj.ext true _ w2⟩
  obtain ⟨M2, role2, cur2, gs2, ds2, vv, ee, e2, I2, F2, hl2, ⟨g2, hc2⟩, hR⟩ := both
  have R2 := J1.R.fre F2 (by simp) I2.up
  have L2 := J1.L.fre F2
  have n1 := u1.1
  have hg2 : M2.get bx = some ⟨[.int .i64 at_, .int .i64 N, .int .u64 arg, .sl d1 dl dc, .bool cl], .fixed⟩ := by
    rw [F2.get bx (by omega) (by rw [hr1]; exact nofun)]; exact hg1
  obtain ⟨M3, role3, rs3, e3, R3, F3⟩ := hR M2 role2 rs R2
  have I3 := I2.fre F3 (by simp) R3.up
  have L3 := L2.fre F3
  have J3 : JF M0 M3 role3 h r cs rc cur2 gs2 rs3 ds2 a b := ⟨I3, R3, L3, ⟨g2, hc2⟩⟩
  obtain ⟨M4, v, e4, u4, o4, f4⟩ := I_bytes J3.I (i := 0) rfl hc2
  have J4 := J3.ext u4
  obtain ⟨M5, v2, e5, u5, o5, f5⟩ := R_bytes J4.R (i := 0) rfl hc2
  have J5 := J4.ext u5
  have hB : (bytesO ds2 (some g2)).length ≤ 2048 := by
    obtain ⟨xx, dd, hx2, hd2⟩ := J3.I.at hc2
    obtain ⟨_, _, hp2, _⟩ := I_rd J3.I (i := 0) rfl hc2 hx2 hd2
    simp only [bytesO, hd2]; exact hp2.sz
  have hv4 := o4.1
  have e6 := EqBytes_C (M := M5) (o4.upto u5).ints o5.ints (by omega)
  have e7 := I_count J5.I (i := 0) rfl hc2
  have e8 := R_count J5.R (i := 0) rfl hc2
  have s1 := still2 (M := M1) (o := bx) (i := 0) (v := .int .i64 at_) (w := .int .i64 N) (by rw [ld_fix hg1]; rfl) (by rw [ld_fix hg1]; rfl)
  have s2 := still1 (M := M) (o := bx) (i := 2) (v := .int .u64 arg) (by rw [ld_fix hg]; rfl)
  simp only [Option.bind_some, List.getElem?_cons_zero, List.getElem?_cons_succ, int?_int, AVal.bool?, AVal.ptr?, AVal.sl?, AVal.tup?, AVal.agg?, AVal.ifc?, AVal.fn?, AVal.str?, List.head?_cons, List.tail_cons, List.isEmpty_nil, cond_true, cond_false, Option.isNone_some, Option.isNone_none, Bool.not_true, Bool.not_false, decide_true, decide_false, beq_self_eq_true, bne_self_eq_false, Int.reduceBEq, Int.reduceBNe, Int.cast_ofNat_Int, ldI_at hg, ldL_at hg] at hE
  rw [e1, Option.bind_some] at hE
  simp only [Option.bind_some, List.getElem?_cons_zero, List.getElem?_cons_succ, int?_int, AVal.bool?, AVal.ptr?, AVal.sl?, AVal.tup?, AVal.agg?, AVal.ifc?, AVal.fn?, AVal.str?, List.head?_cons, List.tail_cons, List.isEmpty_nil, cond_true, cond_false, Option.isNone_some, Option.isNone_none, Bool.not_true, Bool.not_false, decide_true, decide_false, beq_self_eq_true, bne_self_eq_false, Int.reduceBEq, Int.reduceBNe, Int.cast_ofNat_Int, ldI_at hg1] at hE
  rw [e2, Option.bind_some] at hE
  simp only [Option.bind_some, List.getElem?_cons_zero, List.getElem?_cons_succ, int?_int, AVal.bool?, AVal.ptr?, AVal.sl?, AVal.tup?, AVal.agg?, AVal.ifc?, AVal.fn?, AVal.str?, List.head?_cons, List.tail_cons, List.isEmpty_nil, cond_true, cond_false, Option.isNone_some, Option.isNone_none, Bool.not_true, Bool.not_false, decide_true, decide_false, beq_self_eq_true, bne_self_eq_false, Int.reduceBEq, Int.reduceBNe, Int.cast_ofNat_Int, s1, s2, ldI_at hg2, ldL_at hg2] at hE
  rw [e3, Option.bind_some] at hE
  simp only [Option.bind_some, List.getElem?_cons_zero, List.getElem?_cons_succ, int?_int, AVal.bool?, AVal.ptr?, AVal.sl?, AVal.tup?, AVal.agg?, AVal.ifc?, AVal.fn?, AVal.str?, List.head?_cons, List.tail_cons, List.isEmpty_nil, cond_true, cond_false, Option.isNone_some, Option.isNone_none, Bool.not_true, Bool.not_false, decide_true, decide_false, beq_self_eq_true, bne_self_eq_false, Int.reduceBEq, Int.reduceBNe, Int.cast_ofNat_Int, bne_self_eq_false] at hE
  rw [e4, Option.bind_some] at hE
  simp only [Option.bind_some, List.getElem?_cons_zero, List.getElem?_cons_succ, int?_int, AVal.bool?, AVal.ptr?, AVal.sl?, AVal.tup?, AVal.agg?, AVal.ifc?, AVal.fn?, AVal.str?, List.head?_cons, List.tail_cons, List.isEmpty_nil, cond_true, cond_false, Option.isNone_some, Option.isNone_none, Bool.not_true, Bool.not_false, decide_true, decide_false, beq_self_eq_true, bne_self_eq_false, Int.reduceBEq, Int.reduceBNe, Int.cast_ofNat_Int] at hE
  rw [e5, Option.bind_some] at hE
  simp only [Option.bind_some, List.getElem?_cons_zero, List.getElem?_cons_succ, int?_int, AVal.bool?, AVal.ptr?, AVal.sl?, AVal.tup?, AVal.agg?, AVal.ifc?, AVal.fn?, AVal.str?, List.head?_cons, List.tail_cons, List.isEmpty_nil, cond_true, cond_false, Option.isNone_some, Option.isNone_none, Bool.not_true, Bool.not_false, decide_true, decide_false, beq_self_eq_true, bne_self_eq_false, Int.reduceBEq, Int.reduceBNe, Int.cast_ofNat_Int] at hE
  rw [e6, Option.bind_some] at hE
  simp only [Option.bind_some, List.getElem?_cons_zero, List.getElem?_cons_succ, int?_int, AVal.bool?, AVal.ptr?, AVal.sl?, AVal.tup?, AVal.agg?, AVal.ifc?, AVal.fn?, AVal.str?, List.head?_cons, List.tail_cons, List.isEmpty_nil, cond_true, cond_false, Option.isNone_some, Option.isNone_none, Bool.not_true, Bool.not_false, decide_true, decide_false, beq_self_eq_true, bne_self_eq_false, Int.reduceBEq, Int.reduceBNe, Int.cast_ofNat_Int, decide_true, Bool.not_true] at hE
  rw [e7, Option.bind_some] at hE
  simp only [Option.bind_some, List.getElem?_cons_zero, List.getElem?_cons_succ, int?_int, AVal.bool?, AVal.ptr?, AVal.sl?, AVal.tup?, AVal.agg?, AVal.ifc?, AVal.fn?, AVal.str?, List.head?_cons, List.tail_cons, List.isEmpty_nil, cond_true, cond_false, Option.isNone_some, Option.isNone_none, Bool.not_true, Bool.not_false, decide_true, decide_false, beq_self_eq_true, bne_self_eq_false, Int.reduceBEq, Int.reduceBNe, Int.cast_ofNat_Int] at hE
  rw [e8, Option.bind_some] at hE
  simp only [Option.bind_some, List.getElem?_cons_zero, List.getElem?_cons_succ, int?_int, AVal.bool?, AVal.ptr?, AVal.sl?, AVal.tup?, AVal.agg?, AVal.ifc?, AVal.fn?, AVal.str?, List.head?_cons, List.tail_cons, List.isEmpty_nil, cond_true, cond_false, Option.isNone_some, Option.isNone_none, Bool.not_true, Bool.not_false, decide_true, decide_false, beq_self_eq_true, bne_self_eq_false, Int.reduceBEq, Int.reduceBNe, Int.cast_ofNat_Int, bne_self_eq_false] at hE
  exact ⟨M5, hE, _, cs, rc, cur2, gs2, rs3, ds2, J5, by omega⟩
theorem lends_loop {a1 : Option (Nat × Nat)} {l1 : Nat} {cq : Cap} (hv : ArgRows M0 [.int .i64, .int .i64, .int .u64, .sl 40 [.int .u8, .int .i64, .sl 1 [.int .u8]], .bool] a1 l1 cq) (hq : RoNew 1048576 Mem.empty M0) :
    ∀ (d i : Nat) (M : Mem) (a b : SlV), i + d = 30 → JX M0 M h r (i + 1) a b → ∃ M', p7_2 C prog.meth a1 l1 cq (some (h, 0)) (some (r, 0)) a.1 a.2.1 a.2.2 b.1 b.2.1 b.2.2 i M = some (.bool true, M') := by
  intro d
  induction d with
  | zero =>
    intro i M a b hi J
    have hE := p7_2_eq C prog.meth a1 l1 cq (some (h, 0)) (some (r, 0)) a.1 a.2.1 a.2.2 b.1 b.2.1 b.2.2 i M
    obtain ⟨Mw, cw⟩ := works23_C
    have q : ¬ ((i : Int) < 30) := by omega
    simp only [q, decide_false, cond_false] at hE
    rw [cw] at hE
    simp only [Option.bind_some, List.getElem?_cons_zero, List.getElem?_cons_succ, int?_int, AVal.bool?, AVal.ptr?, AVal.sl?, AVal.tup?, AVal.agg?, AVal.ifc?, AVal.fn?, AVal.str?, List.head?_cons, List.tail_cons, List.isEmpty_nil, cond_true, cond_false, Option.isNone_some, Option.isNone_none, Bool.not_true, Bool.not_false, decide_true, decide_false, beq_self_eq_true, bne_self_eq_false, Int.reduceBEq, Int.reduceBNe, Int.cast_ofNat_Int] at hE
    exact ⟨M, by rw [hE]; cases decide ((i : Int) < (l1 : Int)) <;> rfl⟩
  | succ d ih =>
    intro i M a b hi J
    have hE := p7_2_eq C prog.meth a1 l1 cq (some (h, 0)) (some (r, 0)) a.1 a.2.1 a.2.2 b.1 b.2.1 b.2.2 i M
    obtain ⟨Mw, cw⟩ := works23_C
    by_cases q0 : ((i : Int) < (l1 : Int))
    rotate_left
    · simp only [q0, decide_false, cond_false] at hE
      rw [cw] at hE
      simp only [Option.bind_some, List.getElem?_cons_zero, List.getElem?_cons_succ, int?_int, AVal.bool?, AVal.ptr?, AVal.sl?, AVal.tup?, AVal.agg?, AVal.ifc?, AVal.fn?, AVal.str?, List.head?_cons, List.tail_cons, List.isEmpty_nil, cond_true, cond_false, Option.isNone_some, Option.isNone_none, Bool.not_true, Bool.not_false, decide_true, decide_false, beq_self_eq_true, bne_self_eq_false, Int.reduceBEq, Int.reduceBNe, Int.cast_ofNat_Int] at hE
      exact ⟨M, hE⟩
    have q : ((i : Int) < 30) := by omega
    simp only [q0, q, decide_true, cond_true] at hE
    have hE3 := p7_3_eq C prog.meth a1 l1 cq (some (h, 0)) (some (r, 0)) a.1 a.2.1 a.2.2 b.1 b.2.1 b.2.2 i M
    have c0 : (0 : Int) ≤ (i : Int) := by omega
    have c2 : Nat.blt i l1 = true := Mem.blt_iff.2 (by omega)
    have hw : IntKind.wrap .i64 ((i : Int) + 1) = ((i + 1 : Nat) : Int) := by rw [wrap_i64 (by omega) (by omega)]; rfl
    obtain ⟨role, cs, rc, cur, gs, rs, ds, J, hlen⟩ := J
    have hup := J.I.up
    obtain ⟨s, ws, hs1, hsn, hsh, hld⟩ := hv i (by omega)
    simp only [ShowsR] at hsh
    obtain ⟨v0, w0, rfl, hb0, v1, w1, rfl, hb1, v2, w2, rfl, hb2, v3, w3, rfl, hb3, v4, w4, rfl, hb4, rfl⟩ := hsh
    have hb3' := hb3
    obtain ⟨d1, dl, dc, rfl, hl1⟩ := hb3.form
    simp only [Shows] at hb0 hb1 hb2 hb4
    obtain ⟨at_, rfl, _⟩ := hb0
    obtain ⟨N, rfl, hN⟩ := hb1
    obtain ⟨arg, rfl, _⟩ := hb2
    obtain ⟨cl, rfl⟩ := hb4
    have hl1' := rows_le hb3' hq (by simp)
    obtain ⟨L, hd, hall⟩ := deeds_of (fun i hi => hb3'.row hi) hq
    have hdl := hd.len
    have l0 : M.ldI .i64 s.1 (s.2 + i * 5) = some at_ := ldI_ld.2 (by simpa using hld M hup 0 (by simp))
    have l1' : M.ldI .i64 s.1 (s.2 + i * 5 + 1) = some N := ldI_ld.2 (by simpa [Nat.add_assoc] using hld M hup 1 (by simp))
    have l2 : M.ldI .u64 s.1 (s.2 + i * 5 + 1 + 1) = some arg := ldI_ld.2 (by simpa [Nat.add_assoc] using hld M hup 2 (by simp))
    have l3 : M.ldL s.1 (s.2 + i * 5 + 1 + 1 + 1) = some (d1, dl, dc) := by
      have : M.ld s.1 (s.2 + i * 5 + 1 + 1 + 1) = some (.sl d1 dl dc) := by simpa [Nat.add_assoc] using hld M hup 3 (by simp)
      unfold Mem.ldL; rw [this]; rfl
    have l4 : M.ldB s.1 (s.2 + i * 5 + 1 + 1 + 1 + 1) = some cl := by
      have : M.ld s.1 (s.2 + i * 5 + 1 + 1 + 1 + 1) = some (.bool cl) := by simpa [Nat.add_assoc] using hld M hup 4 (by simp)
      unfold Mem.ldB; rw [this]; rfl
    obtain ⟨M1, e1, g1, u1, n1⟩ := alloc_at M ⟨[.int .i64 0, .int .i64 0, .int .u64 0, .sl none 0 (.known 0), .bool false], .fixed⟩
    obtain ⟨M2, s2, g2, n2, b2⟩ := st_at (i := 0) (vs := [.int .i64 at_, .int .i64 N, .int .u64 arg, .sl d1 dl dc, .bool cl]) g1 (by simp)
    have g2 : M2.get M.n = some ⟨[.int .i64 at_, .int .i64 N, .int .u64 arg, .sl d1 dl dc, .bool cl], .fixed⟩ := g2
    have u2 : M.Upto M2 := ⟨by omega, fun y hy => by rw [b2.2 y (by omega) (by omega), u1.2 y hy]⟩
    have J2 : JB M0 M2 h r (i + 1) a b M.n [.int .i64 at_, .int .i64 N, .int .u64 arg, .sl d1 dl dc, .bool cl] := ⟨_, cs, rc, cur, gs, rs, ds, J.ext u2, hlen, g2, extR_ge (Nat.le_refl _)⟩
    simp only [Option.bind_some, List.getElem?_cons_zero, List.getElem?_cons_succ, int?_int, AVal.bool?, AVal.ptr?, AVal.sl?, AVal.tup?, AVal.agg?, AVal.ifc?, AVal.fn?, AVal.str?, List.head?_cons, List.tail_cons, List.isEmpty_nil, cond_true, cond_false, Option.isNone_some, Option.isNone_none, Bool.not_true, Bool.not_false, decide_true, decide_false, beq_self_eq_true, bne_self_eq_false, Int.reduceBEq, Int.reduceBNe, Int.cast_ofNat_Int, c0, c2, Int.toNat_natCast, hs1, l0, l1', l2, l3, l4, e1, s2, ldB_at g2] at hE3
    have go : ∃ M' a' b', p7_3 C prog.meth a1 l1 cq (some (h, 0)) (some (r, 0)) a.1 a.2.1 a.2.2 b.1 b.2.1 b.2.2 i M = p7_5 C prog.meth a1 l1 cq (some (h, 0)) (some (r, 0)) a'.1 a'.2.1 a'.2.2 b'.1 b'.2.1 b'.2.2 i M.n M' ∧ JB M0 M' h r (i + 1 + 1) a' b' M.n [.int .i64 at_, .int .i64 N, .int .u64 arg, .sl d1 dl dc, .bool cl] := by
      cases cl with
      | true =>
        obtain ⟨M3, a', b', r1, r2⟩ := clone_step (a1 := a1) (l1 := l1) (c1 := cq) (i := (i : Int)) (by omega) J2
        exact ⟨M3, a', b', hE3.trans r1, r2⟩
      | false =>
        obtain ⟨role', cs', rc', cur', gs', rs', ds', J', hlen', hh⟩ := J2
        exact ⟨M2, a, b, hE3, role', cs', rc', cur', gs', rs', ds', J', by omega, hh⟩
    obtain ⟨M3, a', b', r1, J3⟩ := go
    obtain ⟨M4, r2, J4⟩ := loan_step (a1 := a1) (l1 := l1) (c1 := cq) (i := (i : Int)) hd (fun d hd => (hall d hd).1) (by omega) (fun d hd => (hall d hd).2) (i64_bounds hN) J3
    obtain ⟨role4, cs4, rc4, cur4, gs4, rs4, ds4, J4, hlen4⟩ := J4
    have hE7 := p7_7_eq C prog.meth a1 l1 cq (some (h, 0)) (some (r, 0)) a'.1 a'.2.1 a'.2.2 b'.1 b'.2.1 b'.2.2 i M4
    obtain ⟨M5, role5, r3, J5⟩ := show_loop (a1 := a1) (l1 := l1) (c1 := cq) (i := (i : Int)) a'.2.1 0 M4 role4 (by omega) J4
    rw [hw] at r3
    obtain ⟨M', r4⟩ := ih (i + 1) M5 a' b' (by omega) ⟨role5, cs4, rc4, cur4, gs4, rs4, ds4, J5, hlen4⟩
    exact ⟨M', hE.trans (r1.trans (r2.trans (hE7.trans (r3.trans r4))))⟩
theorem ForeignLends_C {ba : Option (Nat × Nat)} {bl : Nat} {bc : Cap} {ps : List Int} {a1 : Option (Nat × Nat)} {l1 : Nat} {cq : Cap} (hp : PS M0 ba bl bc ps) (hv : ArgRows M0 [.int .i64, .int .i64, .int .u64, .sl 40 [.int .u8, .int .i64, .sl 1 [.int .u8]], .bool] a1 l1 cq) (hq : RoNew 1048576 Mem.empty M0) :
    ∃ M', C 7 [.sl ba bl bc, .sl a1 l1 cq] M0 = some (.bool true, M') := by
  have hE := p7_0_eq C prog.meth ba bl bc a1 l1 cq M0
  obtain ⟨pl, cc, hpl, hp1⟩ := Cut_C hp
  have hxl := ints_length hp1.ints
  generalize ps.take 2048 = xs at hp1 hxl
  have G0 : GS false KI M0 M0 (fun _ => .other 0) [] [] [] [] := ⟨Mem.Upto.refl _, rfl, by simp, by simp, rfl, by simp, by simp⟩
  have G1 : GS true KR M0 M0 (fun _ => .other 0) [] [] [] [] := ⟨Mem.Upto.refl _, rfl, by simp, by simp, rfl, by simp, by simp⟩
  obtain ⟨M2, h, x, role2, c2, u2, I2, F2⟩ := I_new G0 (by simp) hp1.ints hpl
  have R2 := G1.fre F2 (by simp) I2.up
  obtain ⟨M3, r, y, role3, c3, u3, R3, F3⟩ := R_new R2 (by simp) (hp1.upto u2).ints hpl
  have I3 := I2.fre F3 (by simp) R3.up
  rw [cc, Option.bind_some] at hE
  simp only [Option.bind_some, List.getElem?_cons_zero, List.getElem?_cons_succ, int?_int, AVal.bool?, AVal.ptr?, AVal.sl?, AVal.tup?, AVal.agg?, AVal.ifc?, AVal.fn?, AVal.str?, List.head?_cons, List.tail_cons, List.isEmpty_nil, cond_true, cond_false, Option.isNone_some, Option.isNone_none, Bool.not_true, Bool.not_false, decide_true, decide_false, beq_self_eq_true, bne_self_eq_false, Int.reduceBEq, Int.reduceBNe, Int.cast_ofNat_Int] at hE
  rw [c2, Option.bind_some] at hE
  simp only [Option.bind_some, List.getElem?_cons_zero, List.getElem?_cons_succ, int?_int, AVal.bool?, AVal.ptr?, AVal.sl?, AVal.tup?, AVal.agg?, AVal.ifc?, AVal.fn?, AVal.str?, List.head?_cons, List.tail_cons, List.isEmpty_nil, cond_true, cond_false, Option.isNone_some, Option.isNone_none, Bool.not_true, Bool.not_false, decide_true, decide_false, beq_self_eq_true, bne_self_eq_false, Int.reduceBEq, Int.reduceBNe, Int.cast_ofNat_Int] at hE
  rw [c3, Option.bind_some] at hE
  simp only [Option.bind_some, List.getElem?_cons_zero, List.getElem?_cons_succ, int?_int, AVal.bool?, AVal.ptr?, AVal.sl?, AVal.tup?, AVal.agg?, AVal.ifc?, AVal.fn?, AVal.str?, List.head?_cons, List.tail_cons, List.isEmpty_nil, cond_true, cond_false, Option.isNone_some, Option.isNone_none, Bool.not_true, Bool.not_false, decide_true, decide_false, beq_self_eq_true, bne_self_eq_false, Int.reduceBEq, Int.reduceBNe, Int.cast_ofNat_Int, bne_self_eq_false] at hE
  have hE1 := p7_1_eq C prog.meth a1 l1 cq (some (h, 0)) (some (r, 0)) M3
  obtain ⟨M', q⟩ := lends_loop (h := h) (r := r) hv hq 30 0 M3 (none, 0, .known 0) (none, 0, .known 0) (by omega) ⟨role3, [], [], [some 0], [x], [y], [⟨xs, 64, 64, 0⟩], ⟨I3, R3, ⟨Row.nil _ _ _, Row.nil _ _ _, by simp [fpOf], by simp [fpOf]⟩, ⟨0, rfl⟩⟩, by simp⟩
  exact ⟨M', c7 (hE.trans (hE1.trans q))⟩
end
theorem ForeignLends_law : ∀ avs M, M.Whole → okL M.n avs → ShowsArgs M [(false, [.sl 1 [.int .u8]]), (false, [.sl 56 [.int .i64, .int .i64, .int .u64, .sl 40 [.int .u8, .int .i64, .sl 1 [.int .u8]], .bool]])] avs → (∀ L, L = 1048576 → RoNew L Mem.empty M) → ∃ M', C 7 avs M = some (.bool true, M') := by
  intro avs M hM hok h hq
  simp only [ShowsArgs, ShowsArg] at h
  obtain ⟨v, _, rfl, ⟨t, ht, hv⟩, w, _, rfl, ⟨t', ht', hw⟩, rfl⟩ := h
  obtain rfl : t = .sl 1 [.int .u8] := by simpa using ht.symm
  obtain rfl : t' = .sl 56 [.int .i64, .int .i64, .int .u64, .sl 40 [.int .u8, .int .i64, .sl 1 [.int .u8]], .bool] := by simpa using ht'.symm
  obtain ⟨a, l, c, xs, rfl, hx, hl, hwf⟩ := hv.ints
  obtain ⟨a1, l1, c1, rfl, hl1⟩ := hw.form
  exact ForeignLends_C (PS.arg hv hx) (fun i hi => hw.row hi) (hq _ rfl)
end Go.Proofs.Ytjcakemgghfflaa.M
