/- ShareCounts. -/
import Derived.Test.YtfdlmneofbcpnaaSI
set_option linter.unusedVariables false
set_option linter.unusedSimpArgs false
set_option linter.unnecessarySimpa false
set_option maxRecDepth 100000
namespace Go.Proofs.Ytfdlmneofbcpnaa.M
open Go.Abs

theorem awake04_C : ∃ M', C 7 [] Mem.empty = some (.bool true, M') := whole_says (n := 400) (by kernel_rfl)
def encP (h : Nat) : List AVal := [.ptr (some (h, 0))]
theorem encP1 : Enc 1 encP := fun _ => rfl
theorem SS.frame {M0 M M' : Mem} {role : Nat → Rl} {hs : List Nat} {cur : List (Option Nat)} {gs : List Grp} {N : Nat} (H : SS M0 M role hs cur gs N) (hu : M0.Upto M') (hg : ∀ y, y < M.n → role y ≠ .other → M'.get y = M.get y) : SS M0 M' role hs cur gs N := by
  refine ⟨hu, H.len, fun i h c h1 h2 => ?_, fun g x h1 => ?_, H.inb, H.few⟩
  · obtain ⟨a, b, c⟩ := H.hand i h c h1 h2
    exact ⟨by rw [hg _ (Mem.get_lt a) (by rw [b]; exact nofun)]; exact a, b, c⟩
  · obtain ⟨a, ⟨a1, t, mv, b, b2⟩, c1, c2, c3, c⟩ := H.grp g x h1
    exact ⟨by rw [hg _ (Mem.get_lt a) (by rw [c1]; exact nofun)]; exact a, ⟨a1, t, mv, b.same (hg _ b.lt.1 (by rw [c2]; exact nofun)) (hg _ b.lt.2 (by rw [c3]; exact nofun)), b2⟩, c1, c2, c3, c⟩
/-- The pointers of the handles, in a slice. -/
structure PR (M0 M : Mem) (role : Nat → Rl) (a : Option (Nat × Nat)) (l : Nat) (c : Cap) (hs : List Nat) : Prop where
  row : Row M 1 encP a l c hs
  fr : ∀ o ∈ fpOf a, M0.n ≤ o ∧ o < M.n ∧ role o = .other
theorem PR.fre {M0 M M' : Mem} {role role' : Nat → Rl} {a : Option (Nat × Nat)} {l : Nat} {c : Cap} {hs : List Nat} (h : PR M0 M role a l c hs) (hf : Fr role role' M M') : PR M0 M' role' a l c hs :=
  ⟨h.row.same (fun o ho => hf.get o (h.fr o ho).2.1 (h.fr o ho).2.2), fun o ho => by
    obtain ⟨h1, h2, h3⟩ := h.fr o ho
    have := hf.n
    exact ⟨h1, by omega, (hf.rl o h2).trans h3⟩⟩
theorem PR.ld {M0 M : Mem} {role : Nat → Rl} {a : Option (Nat × Nat)} {l : Nat} {c : Cap} {hs : List Nat} (h : PR M0 M role a l c hs) {k : Nat} (hk : k < l) : ∃ p, slPtr a c = some p ∧ ∃ hd, hs[k]? = some hd ∧ M.ldP p.1 (p.2 + k) = some (some (hd, 0)) := by
  have hl := h.row.length
  obtain ⟨p, h1, h2⟩ := h.row.sl.get encP1 (by omega) (i := k) (by omega)
  have h3 := h2 0 (by omega)
  simp only [encP, List.getElem?_cons_zero, Nat.add_zero, Nat.mul_one] at h3
  exact ⟨p, h1, hs[k], List.getElem?_eq_getElem (by omega), by unfold Mem.ldP; rw [h3]; rfl⟩
/-- One handle more. -/
theorem PR.push {M0 M : Mem} {role : Nat → Rl} {a : Option (Nat × Nat)} {l : Nat} {c : Cap} {hs hs2 : List Nat} {cur : List (Option Nat)} {gs : List Grp} {N hd : Nat} (h : PR M0 M role a l c hs) (hl : l < 2 ^ 40) (H : SS M0 M role hs2 cur gs N) :
    ∃ M' role', (∀ {β : Type} (K : Option (Nat × Nat) → Nat → Cap → Mem → Option β), appK false 1 8 (M.alloc ⟨[.ptr (some (hd, 0))], .fixed⟩) a l c (.sl (some (M.n, 0)) 1 (.known 1)) K = K (some (M.n + 1, 0)) (l + 1) (.unk 0) M') ∧ PR M0 M' role' (some (M.n + 1, 0)) (l + 1) (.unk 0) (hs ++ [hd]) ∧ SS M0 M' role' hs2 cur gs N ∧ M.n ≤ M'.n ∧ (∀ y, y < M.n → role' y = role y) := by
  obtain ⟨M', q1, q2, q3, q4, q5⟩ := h.row.push (bytes := 8) (y := hd) (cs := [.ptr (some (hd, 0))]) encP1 (by omega) rfl (by omega)
  have hup := H.up.1
  let R' : Nat → Rl := fun y => if y < M.n then role y else .other
  have rl : ∀ y, y < M.n → R' y = role y := fun y hy => by
    show (if y < M.n then role y else Rl.other) = role y
    rw [if_pos hy]
  refine ⟨M', R', q1, ⟨q2, fun o ho => ?_⟩, ((H.rerole (role' := R') rl).frame ⟨by omega, fun y hy => by rw [q4.2 y (by omega) (fun hx => by have := h.fr y hx; omega), H.up.2 y hy]⟩ (fun y hy hne => q4.2 y hy (fun hx => hne ((rl y hy).trans (h.fr y hx).2.2)))), by omega, rl⟩
  simp only [fpOf, List.mem_singleton] at ho
  subst ho
  refine ⟨by omega, by omega, ?_⟩
  show (if M.n + 1 < M.n then role (M.n + 1) else Rl.other) = .other
  rw [if_neg (by omega)]
/-- What the statement notes of a handle. -/
def stOf : Option Nat → Int
  | none => 1
  | some 0 => 0
  | some (_ + 1) => 2
structure CS (M0 M : Mem) (role : Nat → Rl) (hs : List Nat) (cur : List (Option Nat)) (gs : List Grp) (a : Option (Nat × Nat)) (l : Nat) (c : Cap) (st : Nat) : Prop where
  H : SS M0 M role hs cur gs 0
  pr : PR M0 M role a l c hs
  gst : M.get st = some ⟨(cur.map stOf).map (.int .i64), .fixed⟩
  rst : role st = .other
  nst : M0.n ≤ st
  sta : st ∉ fpOf a
  one : ∀ g, g ≠ 0 → cur.count (some g) ≤ 1
  b3 : ∀ x ∈ gs, x.B.length = 3
  g0 : 0 < gs.length
section
variable {M0 M M' : Mem} {role : Nat → Rl} {hs : List Nat} {cur : List (Option Nat)} {gs : List Grp} {a : Option (Nat × Nat)} {l : Nat} {c : Cap} {st : Nat} {a1 : Option (Nat × Nat)} {l1 : Nat} {cq : Cap} {k : Nat}
theorem CS.len (h : CS M0 M role hs cur gs a l c st) : cur.length = l ∧ hs.length = l := ⟨by rw [← h.H.len]; exact h.pr.row.length, h.pr.row.length⟩
theorem CS.note (h : CS M0 M role hs cur gs a l c st) (hk : k < l) : ∃ x, cur[k]? = some x ∧ M.ldI .i64 st k = some (stOf x) := by
  have hl := h.len.1
  refine ⟨cur[k], List.getElem?_eq_getElem (by omega), ldI_ld.2 ?_⟩
  rw [ld_fix h.gst]
  simp [List.getElem?_eq_getElem (show k < cur.length by omega)]
/-- A note is written. -/
theorem CS.set {role' : Nat → Rl} {gs' : List Grp} {y : Option Nat} (h : CS M0 M role hs cur gs a l c st) (hk : k < l) (hf : Fr role role' M M') (H' : SS M0 M' role' hs (cur.set k y) gs' 0) (hone : ∀ g, g ≠ 0 → (cur.set k y).count (some g) ≤ 1) (hb : ∀ x ∈ gs', x.B.length = 3) (hg : 0 < gs'.length) :
    M'.ldI .i64 st k = M.ldI .i64 st k ∧ ∃ M2, M'.st st k [.int .i64 (stOf y)] = some M2 ∧ CS M0 M2 role' hs (cur.set k y) gs' a l c st := by
  have hl := h.len.1
  have hsl := Mem.get_lt h.gst
  have g1 : M'.get st = some ⟨(cur.map stOf).map (.int .i64), .fixed⟩ := (hf.get st hsl h.rst).trans h.gst
  have s1 := st_fix (i := k) (vs := [.int .i64 (stOf y)]) g1 (by simp; omega)
  rw [overL_one, ← List.map_set, ← List.map_set] at s1
  have hs1 := Mem.get_lt g1
  have b := Mem.But.put M' st ⟨((cur.set k y).map stOf).map (.int .i64), .fixed⟩
  have hup := H'.up.1
  have rs' := (hf.rl st hsl).trans h.rst
  refine ⟨?_, _, s1, ⟨H'.frame ⟨by rw [Mem.n_put]; omega, fun z hz => by rw [b.2 z (by omega) (by have := h.nst; omega), H'.up.2 z hz]⟩ (fun z hz hne => b.2 z hz (fun e => hne (by rw [e]; exact rs'))), ⟨(h.pr.fre hf).row.same (fun o ho => b.2 o ((h.pr.fre hf).fr o ho).2.1 (fun e => h.sta (by rw [← e]; exact ho))), fun o ho => (h.pr.fre hf).fr o ho⟩, get_put_self hs1, rs', h.nst, h.sta, hone, hb, hg⟩⟩
  unfold Mem.ldI
  rw [ld_fix g1, ld_fix h.gst]
/-- All counts are looked at. -/
theorem counts_look (h : CS M0 M role hs cur gs a l c st) {i : Nat} {K : Nat} (hK : K = cur.count (some 0)) :
    ∀ (d m : Nat), m + d = l → p3_7 C prog.meth a1 l1 cq a l c (some (st, 0)) l (.known l) (K : Int) i m M = p3_2 C prog.meth a1 l1 cq a l c (some (st, 0)) l (.known l) (K : Int) (IntKind.wrap .i64 ((i : Int) + 1)) M := by
  have hfew := h.H.few
  have hlen := h.len
  intro d
  induction d with
  | zero =>
    intro m hm
    have hE := p3_7_eq C prog.meth a1 l1 cq a l c (some (st, 0)) l (.known l) (K : Int) i m M
    have h1 : ¬ ((m : Int) < (l : Int)) := by omega
    simp only [h1, decide_false, cond_false] at hE
    exact hE
  | succ d ih =>
    intro m hm
    have hE := p3_7_eq C prog.meth a1 l1 cq a l c (some (st, 0)) l (.known l) (K : Int) i m M
    have h1 : ((m : Int) < (l : Int)) := by omega
    have h0 : (0 : Int) ≤ (m : Int) := by omega
    have h2 : Nat.blt m l = true := Mem.blt_iff.2 (by omega)
    have hw : IntKind.wrap .i64 ((m : Int) + 1) = ((m + 1 : Nat) : Int) := by rw [wrap_i64 (by omega) (by omega)]; rfl
    obtain ⟨x, hx, e1⟩ := h.note (k := m) (by omega)
    obtain ⟨p, hp, hd, hhd, e2⟩ := h.pr.ld (k := m) (by omega)
    have hih := ih (m + 1) (by omega)
    have hs : slPtr (some (st, 0)) (.known l) = some (st, 0) := rfl
    have hE8 := fun v => p3_8_eq C prog.meth a1 l1 cq a l c (some (st, 0)) l (.known l) (K : Int) i m v M
    have hE9 := fun v => p3_9_eq C prog.meth a1 l1 cq a l c (some (st, 0)) l (.known l) (K : Int) i m v M
    simp only [h1, h0, decide_true, cond_true, Int.toNat_natCast, h2, hs, Option.bind_some, Nat.mul_one, Nat.zero_add, e1] at hE
    simp only [h0, decide_true, cond_true, Int.toNat_natCast, h2, hs, Option.bind_some, Nat.mul_one, Nat.zero_add, e1] at hE8
    simp only [h0, decide_true, cond_true, Int.toNat_natCast, h2, hp, Option.bind_some, Nat.mul_one, e2, hw] at hE9
    cases x with
    | none =>
      have c1 := h.H.count0 hhd hx
      have hE9 := hE9 0
      simp only [Option.bind_some, List.getElem?_cons_zero, List.getElem?_cons_succ, int?_int, AVal.bool?, AVal.ptr?, AVal.sl?, AVal.tup?, AVal.agg?, AVal.ifc?, AVal.fn?, AVal.str?, List.head?_cons, List.tail_cons, List.isEmpty_nil, cond_true, cond_false, Option.isNone_some, Option.isNone_none, Bool.not_true, Bool.not_false, decide_true, decide_false, beq_self_eq_true, bne_self_eq_false, Int.reduceBEq, Int.reduceBNe, Int.cast_ofNat_Int, c1] at hE9
      have hE8 := hE8 0
      simp only [stOf, Option.bind_some, List.getElem?_cons_zero, List.getElem?_cons_succ, int?_int, AVal.bool?, AVal.ptr?, AVal.sl?, AVal.tup?, AVal.agg?, AVal.ifc?, AVal.fn?, AVal.str?, List.head?_cons, List.tail_cons, List.isEmpty_nil, cond_true, cond_false, Option.isNone_some, Option.isNone_none, Bool.not_true, Bool.not_false, decide_true, decide_false, beq_self_eq_true, bne_self_eq_false, Int.reduceBEq, Int.reduceBNe, Int.cast_ofNat_Int] at hE8
      simp only [stOf, Option.bind_some, List.getElem?_cons_zero, List.getElem?_cons_succ, int?_int, AVal.bool?, AVal.ptr?, AVal.sl?, AVal.tup?, AVal.agg?, AVal.ifc?, AVal.fn?, AVal.str?, List.head?_cons, List.tail_cons, List.isEmpty_nil, cond_true, cond_false, Option.isNone_some, Option.isNone_none, Bool.not_true, Bool.not_false, decide_true, decide_false, beq_self_eq_true, bne_self_eq_false, Int.reduceBEq, Int.reduceBNe, Int.cast_ofNat_Int] at hE
      exact hE.trans (hE8.trans (hE9.trans hih))
    | some g =>
      have c1 := h.H.count hhd hx
      cases g with
      | zero =>
        have hE9 := hE9 (K : Int)
        rw [← hK] at c1
        have hne : ((K : Int) != (K : Int)) = false := bne_self_eq_false _
        simp only [Option.bind_some, List.getElem?_cons_zero, List.getElem?_cons_succ, int?_int, AVal.bool?, AVal.ptr?, AVal.sl?, AVal.tup?, AVal.agg?, AVal.ifc?, AVal.fn?, AVal.str?, List.head?_cons, List.tail_cons, List.isEmpty_nil, cond_true, cond_false, Option.isNone_some, Option.isNone_none, Bool.not_true, Bool.not_false, decide_true, decide_false, beq_self_eq_true, bne_self_eq_false, Int.reduceBEq, Int.reduceBNe, Int.cast_ofNat_Int, c1, hne] at hE9
        have hE8 := hE8 (K : Int)
        simp only [stOf, Option.bind_some, List.getElem?_cons_zero, List.getElem?_cons_succ, int?_int, AVal.bool?, AVal.ptr?, AVal.sl?, AVal.tup?, AVal.agg?, AVal.ifc?, AVal.fn?, AVal.str?, List.head?_cons, List.tail_cons, List.isEmpty_nil, cond_true, cond_false, Option.isNone_some, Option.isNone_none, Bool.not_true, Bool.not_false, decide_true, decide_false, beq_self_eq_true, bne_self_eq_false, Int.reduceBEq, Int.reduceBNe, Int.cast_ofNat_Int] at hE8
        simp only [stOf, Option.bind_some, List.getElem?_cons_zero, List.getElem?_cons_succ, int?_int, AVal.bool?, AVal.ptr?, AVal.sl?, AVal.tup?, AVal.agg?, AVal.ifc?, AVal.fn?, AVal.str?, List.head?_cons, List.tail_cons, List.isEmpty_nil, cond_true, cond_false, Option.isNone_some, Option.isNone_none, Bool.not_true, Bool.not_false, decide_true, decide_false, beq_self_eq_true, bne_self_eq_false, Int.reduceBEq, Int.reduceBNe, Int.cast_ofNat_Int] at hE
        exact hE.trans (hE8.trans (hE9.trans hih))
      | succ g =>
        have hc1 : cur.count (some (g + 1)) = 1 := by
          have e1 := h.one (g + 1) (by omega)
          have e2 : 0 < cur.count (some (g + 1)) := List.count_pos_iff.2 (List.mem_of_getElem? hx)
          omega
        rw [hc1] at c1
        have c1' : C 13 [.ptr (some (hd, 0))] M = some (.int .i64 1, M) := c1
        have hE9 := hE9 1
        simp only [Option.bind_some, List.getElem?_cons_zero, List.getElem?_cons_succ, int?_int, AVal.bool?, AVal.ptr?, AVal.sl?, AVal.tup?, AVal.agg?, AVal.ifc?, AVal.fn?, AVal.str?, List.head?_cons, List.tail_cons, List.isEmpty_nil, cond_true, cond_false, Option.isNone_some, Option.isNone_none, Bool.not_true, Bool.not_false, decide_true, decide_false, beq_self_eq_true, bne_self_eq_false, Int.reduceBEq, Int.reduceBNe, Int.cast_ofNat_Int, c1'] at hE9
        have hE8 := hE8 (K : Int)
        simp only [stOf, Option.bind_some, List.getElem?_cons_zero, List.getElem?_cons_succ, int?_int, AVal.bool?, AVal.ptr?, AVal.sl?, AVal.tup?, AVal.agg?, AVal.ifc?, AVal.fn?, AVal.str?, List.head?_cons, List.tail_cons, List.isEmpty_nil, cond_true, cond_false, Option.isNone_some, Option.isNone_none, Bool.not_true, Bool.not_false, decide_true, decide_false, beq_self_eq_true, bne_self_eq_false, Int.reduceBEq, Int.reduceBNe, Int.cast_ofNat_Int] at hE8
        simp only [stOf, Option.bind_some, List.getElem?_cons_zero, List.getElem?_cons_succ, int?_int, AVal.bool?, AVal.ptr?, AVal.sl?, AVal.tup?, AVal.agg?, AVal.ifc?, AVal.fn?, AVal.str?, List.head?_cons, List.tail_cons, List.isEmpty_nil, cond_true, cond_false, Option.isNone_some, Option.isNone_none, Bool.not_true, Bool.not_false, decide_true, decide_false, beq_self_eq_true, bne_self_eq_false, Int.reduceBEq, Int.reduceBNe, Int.cast_ofNat_Int] at hE
        exact hE.trans (hE8.trans (hE9.trans hih))
theorem counts_loop {xs : List Int} (hx : M0.ints .i64 a1 l1 cq = some xs) (hlpos : 0 < l) :
    ∀ (d i : Nat) (M : Mem) (role : Nat → Rl) (cur : List (Option Nat)) (gs : List Grp), i + d = 60 → CS M0 M role hs cur gs a l c st → ∃ M', p3_2 C prog.meth a1 l1 cq a l c (some (st, 0)) l (.known l) ((cur.count (some 0) : Nat) : Int) i M = some (.bool true, M') := by
  intro d
  induction d with
  | zero =>
    intro i M role cur gs hi h
    have hE := p3_2_eq C prog.meth a1 l1 cq a l c (some (st, 0)) l (.known l) ((cur.count (some 0) : Nat) : Int) i M
    have h60 : ¬ ((i : Int) < 60) := by omega
    simp only [h60, decide_false, cond_false] at hE
    exact ⟨M, by rw [hE]; cases decide ((i : Int) < (l1 : Int)) <;> rfl⟩
  | succ d ih =>
    intro i M role cur gs hi h
    have hE := p3_2_eq C prog.meth a1 l1 cq a l c (some (st, 0)) l (.known l) ((cur.count (some 0) : Nat) : Int) i M
    by_cases hl1 : (i : Int) < (l1 : Int)
    rotate_left
    · simp only [hl1, decide_false, cond_false] at hE
      exact ⟨M, hE⟩
    have h60 : ((i : Int) < 60) := by omega
    simp only [h60, hl1, decide_true, cond_true] at hE
    have hwi : IntKind.wrap .i64 ((i : Int) + 1) = ((i + 1 : Nat) : Int) := by rw [wrap_i64 (by omega) (by omega)]; rfl
    have hfew := h.H.few
    have hlen := h.len
    -- behind a call
    have tail : ∀ (M : Mem) (role : Nat → Rl) (cur : List (Option Nat)) (gs : List Grp) (K : Int), K = ((cur.count (some 0) : Nat) : Int) → CS M0 M role hs cur gs a l c st → ∃ M', p3_6 C prog.meth a1 l1 cq a l c (some (st, 0)) l (.known l) K i M = some (.bool true, M') := by
      intro M role cur gs K hK h
      subst hK
      have hE := p3_6_eq C prog.meth a1 l1 cq a l c (some (st, 0)) l (.known l) ((cur.count (some 0) : Nat) : Int) i M
      have hq := counts_look (a1 := a1) (l1 := l1) (cq := cq) h (i := i) (K := cur.count (some 0)) rfl l 0 (by omega)
      rw [hwi] at hq
      obtain ⟨M', e⟩ := ih (i + 1) M role cur gs (by omega) h
      exact ⟨M', hE.trans (hq.trans e)⟩
    obtain ⟨e1, e2⟩ := ints_iff.1 (ints_upto hx h.H.up)
    obtain ⟨q, hq, hqv⟩ := e2 i (by omega)
    rw [List.getElem?_eq_getElem (by omega)] at hqv
    have h0 : (0 : Int) ≤ (i : Int) := by omega
    have h2 : Nat.blt i l1 = true := Mem.blt_iff.2 (by omega)
    have hE3 := p3_3_eq C prog.meth a1 l1 cq a l c (some (st, 0)) l (.known l) ((cur.count (some 0) : Nat) : Int) i M
    obtain ⟨k, hk, ck⟩ := Bring_C (i := xs[i]'(by omega)) (n := (l : Int)) (M := Mem.empty) (by omega) (by omega)
    simp only [Option.bind_some, List.getElem?_cons_zero, List.getElem?_cons_succ, int?_int, AVal.bool?, AVal.ptr?, AVal.sl?, AVal.tup?, AVal.agg?, AVal.ifc?, AVal.fn?, AVal.str?, List.head?_cons, List.tail_cons, List.isEmpty_nil, cond_true, cond_false, Option.isNone_some, Option.isNone_none, Bool.not_true, Bool.not_false, decide_true, decide_false, beq_self_eq_true, bne_self_eq_false, Int.reduceBEq, Int.reduceBNe, Int.cast_ofNat_Int, h0, Int.toNat_natCast, h2, hq, Nat.mul_one, hqv, ck] at hE3
    have hkl : k < l := by omega
    have k0 : (0 : Int) ≤ (k : Int) := by omega
    have k2 : Nat.blt k l = true := Mem.blt_iff.2 hkl
    obtain ⟨x, hcx, en⟩ := h.note hkl
    obtain ⟨p, hp, hd, hhd, ep⟩ := h.pr.ld hkl
    have hs : slPtr (some (st, 0)) (.known l) = some (st, 0) := rfl
    have hkc : k < cur.length := by omega
    have hcg : cur[k] = x := (List.getElem?_eq_some_iff.1 hcx).2
    have cset : ∀ (y : Option Nat) (g : Nat), (cur.set k y).count (some g) = cur.count (some g) - (if x = some g then 1 else 0) + (if y = some g then 1 else 0) := fun y g => by
      rw [List.count_set hkc, hcg]
      by_cases e : x = some g <;> by_cases e2 : y = some g <;> simp [e, e2]
    have onen : ∀ g, g ≠ 0 → (cur.set k none).count (some g) ≤ 1 := fun g hg => by
      have := h.one g hg
      rw [cset none g, if_neg (show ¬ none = some g from nofun)]; omega
    have hcnt := h.H.cnt 0
    have hsame : cur.set k x = cur := by rw [← hcg]; exact List.set_getElem_self hkc
    -- Free
    have free : ∃ M', p3_4 C prog.meth a1 l1 cq a l c (some (st, 0)) l (.known l) ((cur.count (some 0) : Nat) : Int) i k M = some (.bool true, M') := by
      have hE4 := p3_4_eq C prog.meth a1 l1 cq a l c (some (st, 0)) l (.known l) ((cur.count (some 0) : Nat) : Int) i k M
      cases x with
      | none =>
        have c1 := h.H.free0 hhd hcx
        obtain ⟨f1, M2, f2, f3⟩ := h.set hkl (Fr.refl _ _) (y := none) (by rw [hsame]; exact h.H) onen h.b3 h.g0
        rw [hsame] at f3
        simp only [stOf] at en f2
        simp only [Option.bind_some, List.getElem?_cons_zero, List.getElem?_cons_succ, int?_int, AVal.bool?, AVal.ptr?, AVal.sl?, AVal.tup?, AVal.agg?, AVal.ifc?, AVal.fn?, AVal.str?, List.head?_cons, List.tail_cons, List.isEmpty_nil, cond_true, cond_false, Option.isNone_some, Option.isNone_none, Bool.not_true, Bool.not_false, decide_true, decide_false, beq_self_eq_true, bne_self_eq_false, Int.reduceBEq, Int.reduceBNe, Int.cast_ofNat_Int, k0, Int.toNat_natCast, k2, hp, Nat.mul_one, ep, c1, hs, Nat.zero_add, en, f2] at hE4
        obtain ⟨M', e⟩ := tail M2 role cur gs _ rfl f3
        exact ⟨M', hE4.trans e⟩
      | some g =>
        obtain ⟨M1, c1, H1, n1, b1⟩ := h.H.free hhd hcx
        have fr : Fr role role M M1 := ⟨by omega, b1, fun _ _ => rfl⟩
        obtain ⟨f1, M2, f2, f3⟩ := h.set hkl fr (y := none) H1 onen h.b3 h.g0
        rw [en] at f1
        simp only [stOf] at f2
        have hs1 := cset none 0
        rw [if_neg (show ¬ (none : Option Nat) = some 0 from nofun), Nat.add_zero] at hs1
        cases g with
        | zero =>
          rw [if_pos rfl] at hs1
          have hpos : 0 < cur.count (some 0) := List.count_pos_iff.2 (List.mem_of_getElem? hcx)
          have hw : IntKind.wrap .i64 (((cur.count (some 0) : Nat) : Int) - 1) = (((cur.set k none).count (some 0) : Nat) : Int) := by rw [wrap_i64 (by omega) (by omega)]; omega
          simp only [stOf] at f1
          simp only [Option.bind_some, List.getElem?_cons_zero, List.getElem?_cons_succ, int?_int, AVal.bool?, AVal.ptr?, AVal.sl?, AVal.tup?, AVal.agg?, AVal.ifc?, AVal.fn?, AVal.str?, List.head?_cons, List.tail_cons, List.isEmpty_nil, cond_true, cond_false, Option.isNone_some, Option.isNone_none, Bool.not_true, Bool.not_false, decide_true, decide_false, beq_self_eq_true, bne_self_eq_false, Int.reduceBEq, Int.reduceBNe, Int.cast_ofNat_Int, k0, Int.toNat_natCast, k2, hp, Nat.mul_one, ep, c1, hs, Nat.zero_add, f1, f2, hw] at hE4
          obtain ⟨M', e⟩ := tail M2 role _ gs _ rfl f3
          exact ⟨M', hE4.trans e⟩
        | succ g =>
          rw [if_neg (by simp), Nat.sub_zero] at hs1
          simp only [stOf] at f1
          simp only [Option.bind_some, List.getElem?_cons_zero, List.getElem?_cons_succ, int?_int, AVal.bool?, AVal.ptr?, AVal.sl?, AVal.tup?, AVal.agg?, AVal.ifc?, AVal.fn?, AVal.str?, List.head?_cons, List.tail_cons, List.isEmpty_nil, cond_true, cond_false, Option.isNone_some, Option.isNone_none, Bool.not_true, Bool.not_false, decide_true, decide_false, beq_self_eq_true, bne_self_eq_false, Int.reduceBEq, Int.reduceBNe, Int.cast_ofNat_Int, k0, Int.toNat_natCast, k2, hp, Nat.mul_one, ep, c1, hs, Nat.zero_add, f1, f2] at hE4
          obtain ⟨M', e⟩ := tail M2 role _ gs _ (by rw [hs1]) f3
          exact ⟨M', hE4.trans e⟩
    -- Store
    have store : ∃ M', p3_5 C prog.meth a1 l1 cq a l c (some (st, 0)) l (.known l) ((cur.count (some 0) : Nat) : Int) i k M = some (.bool true, M') := by
      have hE5 := p3_5_eq C prog.meth a1 l1 cq a l c (some (st, 0)) l (.known l) ((cur.count (some 0) : Nat) : Int) i k M
      cases x with
      | none =>
        have c1 := h.H.store0 hhd hcx 0 1 7
        simp only [stOf] at en
        simp only [Option.bind_some, List.getElem?_cons_zero, List.getElem?_cons_succ, int?_int, AVal.bool?, AVal.ptr?, AVal.sl?, AVal.tup?, AVal.agg?, AVal.ifc?, AVal.fn?, AVal.str?, List.head?_cons, List.tail_cons, List.isEmpty_nil, cond_true, cond_false, Option.isNone_some, Option.isNone_none, Bool.not_true, Bool.not_false, decide_true, decide_false, beq_self_eq_true, bne_self_eq_false, Int.reduceBEq, Int.reduceBNe, Int.cast_ofNat_Int, k0, Int.toNat_natCast, k2, hp, Nat.mul_one, ep, c1, hs, Nat.zero_add, en] at hE5
        obtain ⟨M', e⟩ := tail M role cur gs _ rfl h
        exact ⟨M', hE5.trans e⟩
      | some g =>
        have hgl := h.H.inb k g hcx
        have hgx : gs[g]? = some gs[g] := List.getElem?_eq_getElem hgl
        have hB := h.b3 gs[g] (List.getElem_mem hgl)
        have hask : askE (gs[g]).B.length 0 1 = 0 := by rw [hB]; rfl
        rcases h.H.store hhd hcx hgx 0 1 7 with ⟨e, _⟩ | ⟨_, M1, role1, cur', gs', g', x', c1, H1, ow, hx', hc', fr⟩
        · exact absurd hask e
        have hSB : (storeB (gs[g]).B 0 1 7).length = 3 := by rw [storeB_length hask, hB]
        have hbs : (∀ x ∈ gs', x.B.length = 3) → ∀ x ∈ gs'.set g' ⟨x'.s, x'.p, x'.o, storeB (gs[g]).B 0 1 7⟩, x.B.length = 3 := fun hh x hx => by
          rcases List.mem_or_eq_of_mem_set hx with h1 | rfl
          · exact hh x h1
          · exact hSB
        rcases ow with ⟨o1, rfl, rfl, rfl, o5⟩ | ⟨o1, rfl, rfl, rfl, rfl⟩
        · cases g with
          | succ g => have := h.one (g + 1) (by omega); omega
          | zero =>
            have hb3 : ∀ x ∈ gs ++ [x'], x.B.length = 3 := fun x hx => by
              simp only [List.mem_append, List.mem_singleton] at hx
              rcases hx with hx | rfl
              · exact h.b3 x hx
              · rw [o5]; exact hB
            have c0 : cur.count (some gs.length) = 0 := List.count_eq_zero.2 (fun hm => by
              obtain ⟨j, hj⟩ := List.getElem?_of_mem hm
              have := h.H.inb j _ hj; omega)
            obtain ⟨f1, M2, f2, f3⟩ := h.set hkl fr (y := some gs.length) H1 (fun g hg => by
              rw [cset (some gs.length) g]
              have := h.one g hg
              by_cases e : gs.length = g
              · subst e; rw [c0, if_pos rfl]; omega
              · rw [if_neg (show ¬ some gs.length = some g from fun h => e (Option.some.inj h))]; omega) (hbs hb3) (by simp)
            rw [en] at f1
            have hst : stOf (some gs.length) = 2 := by
              have := h.g0
              cases hgl2 : gs.length with
              | zero => omega
              | succ n => rfl
            rw [hst] at f2
            simp only [stOf] at f1
            have hs1 := cset (some gs.length) 0
            rw [if_pos rfl, if_neg (show ¬ some gs.length = some 0 from fun h' => by have := h.g0; have := Option.some.inj h'; omega), Nat.add_zero] at hs1
            have hw : IntKind.wrap .i64 (((cur.count (some 0) : Nat) : Int) - 1) = (((cur.set k (some gs.length)).count (some 0) : Nat) : Int) := by rw [wrap_i64 (by omega) (by omega)]; omega
            have hgt : ((cur.count (some 0) : Nat) : Int) > 1 := by omega
            simp only [Option.bind_some, List.getElem?_cons_zero, List.getElem?_cons_succ, int?_int, AVal.bool?, AVal.ptr?, AVal.sl?, AVal.tup?, AVal.agg?, AVal.ifc?, AVal.fn?, AVal.str?, List.head?_cons, List.tail_cons, List.isEmpty_nil, cond_true, cond_false, Option.isNone_some, Option.isNone_none, Bool.not_true, Bool.not_false, decide_true, decide_false, beq_self_eq_true, bne_self_eq_false, Int.reduceBEq, Int.reduceBNe, Int.cast_ofNat_Int, k0, Int.toNat_natCast, k2, hp, Nat.mul_one, ep, c1, hs, Nat.zero_add, f1, hgt, f2, hw] at hE5
            obtain ⟨M', e⟩ := tail M2 role1 _ _ _ rfl f3
            exact ⟨M', hE5.trans e⟩
        · have hsl := Mem.get_lt h.gst
          have g1 : M1.get st = some ⟨(cur'.map stOf).map (.int .i64), .fixed⟩ := (fr.get st hsl h.rst).trans h.gst
          have h1 : CS M0 M1 role1 _ cur' _ a l c st := ⟨H1, h.pr.fre fr, g1, (fr.rl st hsl).trans h.rst, h.nst, h.sta, h.one, hbs h.b3, by rw [List.length_set]; exact h.g0⟩
          obtain ⟨y, hy, en1⟩ := h1.note hkl
          rw [hcx] at hy; cases hy
          cases g' with
          | zero =>
            have hgt : ¬ ((cur'.count (some 0) : Nat) : Int) > 1 := by omega
            simp only [stOf] at en1
            simp only [Option.bind_some, List.getElem?_cons_zero, List.getElem?_cons_succ, int?_int, AVal.bool?, AVal.ptr?, AVal.sl?, AVal.tup?, AVal.agg?, AVal.ifc?, AVal.fn?, AVal.str?, List.head?_cons, List.tail_cons, List.isEmpty_nil, cond_true, cond_false, Option.isNone_some, Option.isNone_none, Bool.not_true, Bool.not_false, decide_true, decide_false, beq_self_eq_true, bne_self_eq_false, Int.reduceBEq, Int.reduceBNe, Int.cast_ofNat_Int, k0, Int.toNat_natCast, k2, hp, Nat.mul_one, ep, c1, hs, Nat.zero_add, en1, hgt] at hE5
            obtain ⟨M', e⟩ := tail M1 role1 cur' _ _ rfl h1
            exact ⟨M', hE5.trans e⟩
          | succ g =>
            simp only [stOf] at en1
            simp only [Option.bind_some, List.getElem?_cons_zero, List.getElem?_cons_succ, int?_int, AVal.bool?, AVal.ptr?, AVal.sl?, AVal.tup?, AVal.agg?, AVal.ifc?, AVal.fn?, AVal.str?, List.head?_cons, List.tail_cons, List.isEmpty_nil, cond_true, cond_false, Option.isNone_some, Option.isNone_none, Bool.not_true, Bool.not_false, decide_true, decide_false, beq_self_eq_true, bne_self_eq_false, Int.reduceBEq, Int.reduceBNe, Int.cast_ofNat_Int, k0, Int.toNat_natCast, k2, hp, Nat.mul_one, ep, c1, hs, Nat.zero_add, en1] at hE5
            obtain ⟨M', e⟩ := tail M1 role1 cur' _ _ rfl h1
            exact ⟨M', hE5.trans e⟩
    cases hb : (Int.tmod (xs[i]'(by omega)) 2 == 0) with
    | true =>
      obtain ⟨M', e⟩ := free
      rw [hb, cond_true] at hE3
      exact ⟨M', hE.trans (hE3.trans e)⟩
    | false =>
      obtain ⟨M', e⟩ := store
      rw [hb, cond_false] at hE3
      exact ⟨M', hE.trans (hE3.trans e)⟩
end
/-- The clones. -/
theorem clones_loop {M0 : Mem} {x0 : Int} {r : Nat} {a1 : Option (Nat × Nat)} {l1 : Nat} {cq : Cap} {xs : List Int} {gs : List Grp} (hx : M0.ints .i64 a1 l1 cq = some xs) (hr : r < 20) (cr : C 9 [.int .i64 x0, .int .i64 20] Mem.empty = some (.int .i64 (r : Int), Mem.empty)) (hg0 : 0 < gs.length) (hb3 : ∀ x ∈ gs, x.B.length = 3) :
    ∀ (d i : Nat) (M : Mem) (role : Nat → Rl) (hs : List Nat) (a : Option (Nat × Nat)) (c : Cap), i + d = r → SS M0 M role hs (List.replicate (i + 1) (some 0)) gs 0 → PR M0 M role a (i + 1) c hs →
      ∃ M', p3_1 C prog.meth x0 a1 l1 cq a (i + 1) c i M = some (.bool true, M') := by
  intro d
  induction d with
  | zero =>
    intro i M role hs a c hi H hp
    have hE := p3_1_eq C prog.meth x0 a1 l1 cq a (i + 1) c i M
    have h1 : ¬ ((i : Int) < (r : Int)) := by omega
    have h0 : (0 : Int) ≤ ((i + 1 : Nat) : Int) := by omega
    have b1 : Nat.ble (i + 1) (i + 1) = true := ble_iff.2 (Nat.le_refl _)
    have b2 : Nat.ble (8 * (i + 1)) (2 ^ 47) = true := ble_iff.2 (by omega)
    have hup := H.up.1
    let R' : Nat → Rl := fun y => if y < M.n then role y else .other
    have rl : ∀ y, y < M.n → R' y = role y := fun y hy => by
      show (if y < M.n then role y else Rl.other) = role y
      rw [if_pos hy]
    have rM : R' M.n = .other := by
      show (if M.n < M.n then role M.n else Rl.other) = .other
      rw [if_neg (by omega)]
    have u1 := Mem.Upto.alloc M ⟨replZ [.int .i64 0] (i + 1), .fixed⟩
    have g1 := get_alloc_self M ⟨replZ [.int .i64 0] (i + 1), .fixed⟩
    simp only [Option.bind_some, List.getElem?_cons_zero, List.getElem?_cons_succ, int?_int, AVal.bool?, AVal.ptr?, AVal.sl?, AVal.tup?, AVal.agg?, AVal.ifc?, AVal.fn?, AVal.str?, List.head?_cons, List.tail_cons, List.isEmpty_nil, cond_true, cond_false, Option.isNone_some, Option.isNone_none, Bool.not_true, Bool.not_false, decide_true, decide_false, beq_self_eq_true, bne_self_eq_false, Int.reduceBEq, Int.reduceBNe, Int.cast_ofNat_Int, cr, h1, h0, Int.toNat_natCast, b1, b2, Bool.and_self] at hE
    generalize M.alloc ⟨replZ [.int .i64 0] (i + 1), .fixed⟩ = M1 at hE u1 g1
    rw [replZ_int] at g1
    have hcnt : (List.replicate (i + 1) (some 0)).count (some 0) = i + 1 := List.count_replicate_self
    have h : CS M0 M1 R' hs (List.replicate (i + 1) (some 0)) gs a (i + 1) c M.n := ⟨(H.rerole (role' := R') rl).upto u1, ⟨hp.row.upto encP1 (by omega) u1, fun o ho => by
      obtain ⟨f1, f2, f3⟩ := hp.fr o ho
      exact ⟨f1, by have := u1.1; omega, (rl o f2).trans f3⟩⟩, by rw [g1]; congr 3; rw [List.map_replicate]; rfl, rM, hup, fun ho => by have := (hp.fr _ ho).2.1; omega, fun g hg => by
      rw [List.count_eq_zero.2 (fun hm => by
        have := List.eq_of_mem_replicate hm
        exact hg (Option.some.inj this))]; omega, hb3, hg0⟩
    obtain ⟨M', e⟩ := counts_loop hx (by omega) 60 0 M1 R' _ gs (by omega) h
    rw [hcnt] at e
    exact ⟨M', hE.trans e⟩
  | succ d ih =>
    intro i M role hs a c hi H hp
    have hE := p3_1_eq C prog.meth x0 a1 l1 cq a (i + 1) c i M
    have h1 : ((i : Int) < (r : Int)) := by omega
    have hw : IntKind.wrap .i64 ((i : Int) + 1) = ((i + 1 : Nat) : Int) := by rw [wrap_i64 (by omega) (by omega)]; rfl
    obtain ⟨k, hk, ck⟩ := Bring_C (i := IntKind.wrap .i64 ((i : Int) * 7)) (n := ((i + 1 : Nat) : Int)) (M := Mem.empty) (by omega) (by omega)
    have hkl : k < i + 1 := by omega
    have k0 : (0 : Int) ≤ (k : Int) := by omega
    have k2 : Nat.blt k (i + 1) = true := Mem.blt_iff.2 hkl
    obtain ⟨p, hsp, hd, hhd, ep⟩ := hp.ld hkl
    have hc : (List.replicate (i + 1) (some 0))[k]? = some (some 0) := by rw [List.getElem?_replicate, if_pos hkl]
    obtain ⟨M1, h', role', c1, H1, n1, r1, x, hx0, b1⟩ := H.clone hhd hc (by simp; omega)
    obtain ⟨gs1, _, rs, _⟩ := H.grp 0 x hx0
    have fr : Fr role role' M M1 := ⟨b1.1, fun y hy ho => b1.2 y hy (fun e => by rw [e, rs] at ho; cases ho), r1⟩
    have hp1 := hp.fre fr
    obtain ⟨M2, role2, q1, q2, q3, q4, q5⟩ := hp1.push (hd := h') (by omega) H1
    simp only [Option.bind_some, List.getElem?_cons_zero, List.getElem?_cons_succ, int?_int, AVal.bool?, AVal.ptr?, AVal.sl?, AVal.tup?, AVal.agg?, AVal.ifc?, AVal.fn?, AVal.str?, List.head?_cons, List.tail_cons, List.isEmpty_nil, cond_true, cond_false, Option.isNone_some, Option.isNone_none, Bool.not_true, Bool.not_false, decide_true, decide_false, beq_self_eq_true, bne_self_eq_false, Int.reduceBEq, Int.reduceBNe, Int.cast_ofNat_Int, cr, h1, ck, k0, Int.toNat_natCast, k2, hsp, Nat.mul_one, ep, c1, q1, hw] at hE
    rw [← List.replicate_succ'] at q3
    obtain ⟨M', e⟩ := ih (i + 1) M2 role2 _ _ _ (by omega) q3 q2
    exact ⟨M', hE.trans e⟩
theorem ShareCounts_C {M0 : Mem} {n : Int} {a1 : Option (Nat × Nat)} {l1 : Nat} {cq : Cap} {xs : List Int} (hx : M0.ints .i64 a1 l1 cq = some xs) :
    ∃ M', C 3 [.int .i64 n, .sl a1 l1 cq] M0 = some (.bool true, M') := by
  have hE := p3_0_eq C prog.meth n a1 l1 cq M0
  obtain ⟨Ma, hawake⟩ := awake04_C
  obtain ⟨r, hr, cr⟩ := Bring_C (i := n) (n := 20) (M := Mem.empty) (by omega) (by omega)
  have u1 := Mem.Upto.alloc M0 ⟨[.int .u8 1, .int .u8 2, .int .u8 3], .fixed⟩
  have g1 := get_alloc_self M0 ⟨[.int .u8 1, .int .u8 2, .int .u8 3], .fixed⟩
  generalize M0.alloc ⟨[.int .u8 1, .int .u8 2, .int .u8 3], .fixed⟩ = M1 at hE u1 g1
  have hi : M1.ints .u8 (some (M0.n, 0)) 3 (.known 3) = some [1, 2, 3] := ints_whole (xs := [1, 2, 3]) g1 (by simp) rfl
  obtain ⟨M2, h, x, role, c1, u2, H, hB, hro⟩ := SNew_C hi (by omega) u1
  simp only [Option.bind_some, List.getElem?_cons_zero, List.getElem?_cons_succ, int?_int, AVal.bool?, AVal.ptr?, AVal.sl?, AVal.tup?, AVal.agg?, AVal.ifc?, AVal.fn?, AVal.str?, List.head?_cons, List.tail_cons, List.isEmpty_nil, cond_true, cond_false, Option.isNone_some, Option.isNone_none, Bool.not_true, Bool.not_false, decide_true, decide_false, beq_self_eq_true, bne_self_eq_false, Int.reduceBEq, Int.reduceBNe, Int.cast_ofNat_Int, hawake, c1] at hE
  let R' : Nat → Rl := fun y => if y < M2.n then role y else .other
  have rl : ∀ y, y < M2.n → R' y = role y := fun y hy => by
    show (if y < M2.n then role y else Rl.other) = role y
    rw [if_pos hy]
  have u3 := Mem.Upto.alloc M2 ⟨[.ptr (some (h, 0))], .fixed⟩
  have g3 := get_alloc_self M2 ⟨[.ptr (some (h, 0))], .fixed⟩
  have n3 : (M2.alloc ⟨[.ptr (some (h, 0))], .fixed⟩).n = M2.n + 1 := rfl
  generalize M2.alloc ⟨[.ptr (some (h, 0))], .fixed⟩ = M3 at hE u3 g3 n3
  have hrow : Row M3 1 encP (some (M2.n, 0)) 1 (.known 1) [h] := ⟨Sl.of g3 (by simp) rfl (by simp) (by simp [encP]) rfl, .inl rfl⟩
  have hup := H.up.1
  obtain ⟨M', e⟩ := clones_loop (gs := [x]) hx (r := r) (by omega) cr (by simp) (by intro y hy; simp at hy; subst hy; rw [hB]; rfl) r 0 M3 R' [h] (some (M2.n, 0)) (.known 1) (by omega) ((H.rerole (role' := R') rl).upto u3) ⟨hrow, fun o ho => by
    simp only [fpOf, List.mem_singleton] at ho
    subst ho
    refine ⟨hup, by omega, ?_⟩
    show (if M2.n < M2.n then role M2.n else Rl.other) = .other
    rw [if_neg (by omega)]⟩
  exact ⟨M', c3 (hE.trans e)⟩
theorem ShareCounts_law : ∀ avs M, M.Whole → okL M.n avs → ShowsArgs M [(false, [.int .i64]), (false, [.sl 8 [.int .i64]])] avs → ∃ M', C 3 avs M = some (.bool true, M') := by
  intro avs M hM hok h
  simp only [ShowsArgs, ShowsArg] at h
  obtain ⟨v, _, rfl, ⟨t, ht, hv⟩, w, _, rfl, ⟨t', ht', hw⟩, rfl⟩ := h
  obtain rfl : t = .int .i64 := by simpa using ht.symm
  obtain rfl : t' = .sl 8 [.int .i64] := by simpa using ht'.symm
  simp only [Shows] at hv
  obtain ⟨n, rfl, hn⟩ := hv
  obtain ⟨a, l, c, xs, rfl, hx, hl, hwf⟩ := hw.ints
  exact ShareCounts_C hx
end Go.Proofs.Ytfdlmneofbcpnaa.M
