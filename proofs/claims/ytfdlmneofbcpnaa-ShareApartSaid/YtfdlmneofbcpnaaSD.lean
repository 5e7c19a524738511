/- ShareApart. -/
import Derived.Test.YtfdlmneofbcpnaaCA
set_option linter.unusedVariables false
set_option linter.unusedSimpArgs false
set_option linter.unnecessarySimpa false
set_option maxRecDepth 100000
namespace Go.Proofs.Ytfdlmneofbcpnaa.M
open Go.Abs

section
variable {M0 M M' : Mem} {role role' : Nat → Rl} {r2 : Nat → R2} {hs : List Nat} {cur cur' : List (Option Nat)} {gs gs' : List Grp} {N N' k hd S : Nat} {a b v v' : SlV} {vs : List SlV} {bk : List (List Int)} {xs xs' : List Int}
theorem written_C {kd who at_ sz nn V : Int} {da : Option (Nat × Nat)} {dl : Nat} {dc : Cap} (h : AP M0 M role r2 hs cur gs N a b vs bk) (hr : Rel cur gs bk) (hk : hs[k]? = some hd) (hsz : ∀ xs ∈ bk, xs.length ≤ S) (hS : S ≤ 1000) (hN : N < 2 ^ 60) :
    ∃ M', C 15 [.ptr (some (hd, 0)), .sl b.1 b.2.1 b.2.2, .int .i64 (k : Int), .agg [.int .i64 kd, .int .i64 who, .int .i64 at_, .int .i64 sz, .int .i64 nn, .int .u64 V, .sl da dl dc]] M = some (.bool true, M') ∧ Wrote M0 M' hs (N + 1) (S + 1) a b := by
  have hE := p15_0_eq C prog.meth (some (hd, 0)) b.1 b.2.1 b.2.2 (k : Int) kd who at_ sz nn V da dl dc M
  have hkl := (List.getElem?_eq_some_iff.1 hk).1
  have hl := h.lens
  have u1 := Mem.Upto.alloc M ⟨[.int .i64 kd, .int .i64 who, .int .i64 at_, .int .i64 sz, .int .i64 nn, .int .u64 V, .sl da dl dc], .fixed⟩
  have g1 := get_alloc_self M ⟨[.int .i64 kd, .int .i64 who, .int .i64 at_, .int .i64 sz, .int .i64 nn, .int .u64 V, .sl da dl dc], .fixed⟩
  generalize M.alloc ⟨[.int .i64 kd, .int .i64 who, .int .i64 at_, .int .i64 sz, .int .i64 nn, .int .u64 V, .sl da dl dc], .fixed⟩ = M1 at hE u1 g1
  let R' : Nat → Rl := fun y => if y < M.n then role y else .other
  have rb : R' M.n = .other := by
    show (if M.n < M.n then role M.n else Rl.other) = _
    rw [if_neg (by omega)]
  have h1 : AP M0 M1 R' r2 hs cur gs N a b vs bk := (h.rerole (role' := R') (r2' := r2) (fun y hy => by
      show (if y < M.n then role y else Rl.other) = _
      rw [if_pos hy]) (fun _ _ => rfl)).upto u1
  obtain ⟨p, v, xs, hp, hv, hx, hld, hvl⟩ := h1.look hkl
  have hxS := hsz xs (List.mem_of_getElem? hx)
  have i2 : M1.ldI .i64 M.n 2 = some at_ := ldI_ld.2 (by rw [ld_fix g1]; rfl)
  have i4 : M1.ldI .i64 M.n 4 = some nn := ldI_ld.2 (by rw [ld_fix g1]; rfl)
  have i5 : M1.ldI .u64 M.n 5 = some V := ldI_ld.2 (by rw [ld_fix g1]; rfl)
  have hw : IntKind.wrap .i64 ((v.2.1 : Int) + 1) = ((xs.length + 1 : Nat) : Int) := by rw [wrap_i64 (by omega) (by omega)]; omega
  obtain ⟨r, hr1, cr⟩ := Bring_C (i := at_) (n := ((xs.length + 1 : Nat) : Int)) (M := Mem.empty) (by omega) (by omega)
  obtain ⟨q, hq, cq⟩ := Bring_C (i := nn) (n := 4) (M := Mem.empty) (by omega) (by omega)
  have k0 : (0 : Int) ≤ (k : Int) := by omega
  have k2 : Nat.blt k b.2.1 = true := Mem.blt_iff.2 (by omega)
  have hvx : (v.2.1 : Int) = (xs.length : Int) := by omega
  simp only [Option.bind_some, List.getElem?_cons_zero, List.getElem?_cons_succ, int?_int, AVal.bool?, AVal.ptr?, AVal.sl?, AVal.tup?, AVal.agg?, AVal.ifc?, AVal.fn?, AVal.str?, List.head?_cons, List.tail_cons, List.isEmpty_nil, cond_true, cond_false, Option.isNone_some, Option.isNone_none, Bool.not_true, Bool.not_false, decide_true, decide_false, beq_self_eq_true, bne_self_eq_false, Int.reduceBEq, Int.reduceBNe, Int.cast_ofNat_Int, k0, Int.toNat_natCast, k2, hp, Nat.mul_one, hld, i2, hw, cr, i4, cq] at hE
  rw [hvx] at hE
  obtain rfl | rfl | rfl | rfl : q = 0 ∨ q = 1 ∨ q = 2 ∨ q = 3 := by omega
  · obtain ⟨M', e1, e2⟩ := written0 (at_ := r) (V := V) h1 hr hk hx hsz hS (by omega) (Mem.get_lt g1) rb i5
    exact ⟨M', c15 (hE.trans e1), e2⟩
  · obtain ⟨M', e1, e2⟩ := written1 (at_ := r) (V := V) h1 hr hk hx hsz hS (by omega) (Mem.get_lt g1) rb g1 rfl
    exact ⟨M', c15 (hE.trans e1), e2⟩
  · obtain ⟨M', e1, e2⟩ := written2 h1 hr hk hx hsz hS hN
    exact ⟨M', c15 (hE.trans e1), e2⟩
  · obtain ⟨M2, x, c2, M', e1, e2⟩ := written3 h1 hr hk hx hsz hS hN
    have t0 : (((3 : Nat) : Int) == 0) = false := rfl
    have t1 : (((3 : Nat) : Int) == 1) = false := rfl
    have t2 : (((3 : Nat) : Int) == 2) = false := rfl
    simp only [Option.bind_some, List.getElem?_cons_zero, List.getElem?_cons_succ, int?_int, AVal.bool?, AVal.ptr?, AVal.sl?, AVal.tup?, AVal.agg?, AVal.ifc?, AVal.fn?, AVal.str?, List.head?_cons, List.tail_cons, List.isEmpty_nil, cond_true, cond_false, Option.isNone_some, Option.isNone_none, Bool.not_true, Bool.not_false, decide_true, decide_false, beq_self_eq_true, bne_self_eq_false, Int.reduceBEq, Int.reduceBNe, Int.cast_ofNat_Int, t0, t1, t2, c2] at hE
    exact ⟨M', c15 (hE.trans e1), e2⟩
/-- All handles are looked at. -/
theorem apart_look {a1 : Option (Nat × Nat)} {l1 : Nat} {cq : Cap} {i : Int} (hr : Rel cur gs bk) (hsz : ∀ xs ∈ bk, xs.length ≤ S) (hS : S ≤ 2000) :
    ∀ (d n : Nat) (M : Mem), n + d = hs.length → AP M0 M role r2 hs cur gs N a b vs bk → ∃ M', p4_7 C prog.meth a1 l1 cq a.1 a.2.1 a.2.2 b.1 b.2.1 b.2.2 i n M = p4_2 C prog.meth a1 l1 cq a.1 a.2.1 a.2.2 b.1 b.2.1 b.2.2 (IntKind.wrap .i64 (i + 1)) M' ∧ M.Upto M' := by
  intro d
  induction d with
  | zero =>
    intro n M hn h
    have hE := p4_7_eq C prog.meth a1 l1 cq a.1 a.2.1 a.2.2 b.1 b.2.1 b.2.2 i n M
    have hl := h.lens
    have h1 : ¬ ((n : Int) < (a.2.1 : Int)) := by omega
    simp only [h1, decide_false, cond_false] at hE
    exact ⟨M, hE, Mem.Upto.refl M⟩
  | succ d ih =>
    intro n M hn h
    have hE := p4_7_eq C prog.meth a1 l1 cq a.1 a.2.1 a.2.2 b.1 b.2.1 b.2.2 i n M
    have hl := h.lens
    have h1 : ((n : Int) < (a.2.1 : Int)) := by omega
    have n0 : (0 : Int) ≤ (n : Int) := by omega
    have n1 : Nat.blt n a.2.1 = true := Mem.blt_iff.2 (by omega)
    have n2 : Nat.blt n b.2.1 = true := Mem.blt_iff.2 (by omega)
    have hw : IntKind.wrap .i64 ((n : Int) + 1) = ((n + 1 : Nat) : Int) := by rw [wrap_i64 (by omega) (by omega)]; rfl
    obtain ⟨p, hp, hd, hhd, ep⟩ := h.pr.ld (k := n) (by omega)
    obtain ⟨_, _, xs, _, _, hx, _, _⟩ := h.look (k := n) (by omega)
    obtain ⟨g, x, hg, hgx, hB⟩ := h.grp hr (k := n) (by omega) hx
    obtain ⟨x2, M1, w, hx2, c1, u1, o1, f1⟩ := h.H.bytes hhd hg
    rw [hgx] at hx2; cases hx2
    have h2 := h.upto u1
    obtain ⟨q, v, xs2, hq, hv, hx2, hld, hvl⟩ := h2.look (k := n) (by omega)
    rw [hx] at hx2; cases hx2
    have hxS := hsz xs (List.mem_of_getElem? hx)
    have hwl := o1.1
    have c2 := EqBytes_C (M := M1) (a := w.1) (l := w.2.1) (c := w.2.2) (a' := v.1) (l' := v.2.1) (c' := v.2.2) o1.bytes (h2.own n v xs hv hx).1.bytes (by rw [← hwl, hB]; omega)
    rw [hB, decide_eq_true rfl] at c2
    obtain ⟨q', v3, _, hq', hv3, _, hld0, _⟩ := h.look (k := n) (by omega)
    rw [hq] at hq'; cases hq'
    rw [hv] at hv3; cases hv3
    have hst : M.still q.1 (q.2 + n) [.sl v.1 v.2.1 v.2.2] = true := by
      refine still1 ?_
      unfold Mem.ldL at hld0
      obtain ⟨z, z1, z2⟩ := Option.bind_eq_some_iff.1 hld0
      rw [z1]
      cases z <;> simp [AVal.sl?] at z2
      obtain ⟨rfl, rfl, rfl⟩ := z2
      rfl
    simp only [Option.bind_some, List.getElem?_cons_zero, List.getElem?_cons_succ, int?_int, AVal.bool?, AVal.ptr?, AVal.sl?, AVal.tup?, AVal.agg?, AVal.ifc?, AVal.fn?, AVal.str?, List.head?_cons, List.tail_cons, List.isEmpty_nil, cond_true, cond_false, Option.isNone_some, Option.isNone_none, Bool.not_true, Bool.not_false, decide_true, decide_false, beq_self_eq_true, bne_self_eq_false, Int.reduceBEq, Int.reduceBNe, Int.cast_ofNat_Int, h1, n0, Int.toNat_natCast, n1, hp, Nat.mul_one, ep, c1, n2, hq, hld, c2, hst, hw] at hE
    obtain ⟨M', e1, e2⟩ := ih (n + 1) M1 (by omega) h2
    exact ⟨M', hE.trans e1, u1.trans e2⟩
/-- One clone more. -/
theorem AP.clone (h : AP M0 M role r2 hs cur gs N a b vs bk) (hr : Rel cur gs bk) (hk : hs[k]? = some hd) (hlen : hs.length < 10) (hsz : ∀ xs ∈ bk, xs.length ≤ S) (hS : S ≤ 1000) :
    ∃ (M1 : Mem) (h' : Nat) (M2 : Mem) (xv : SlV) (M3 : Mem) (u : SlV) (M4 : Mem), C 10 [.ptr (some (hd, 0))] M = some (.tup [.ptr (some (h', 0)), .int .i64 0], M1) ∧
      (∀ {β : Type} (K : Option (Nat × Nat) → Nat → Cap → Mem → Option β), appK false 1 8 (M1.alloc ⟨[.ptr (some (h', 0))], .fixed⟩) a.1 a.2.1 a.2.2 (.sl (some (M1.n, 0)) 1 (.known 1)) K = K (some (M1.n + 1, 0)) (a.2.1 + 1) (.unk 0) M2) ∧
      (∃ p, slPtr b.1 b.2.2 = some p ∧ M2.ldL p.1 (p.2 + k) = some xv) ∧ C 14 [.sl xv.1 xv.2.1 xv.2.2] M2 = some (.sl u.1 u.2.1 u.2.2, M3) ∧
      (∀ {β : Type} (K : Option (Nat × Nat) → Nat → Cap → Mem → Option β), appK false 1 24 (M3.alloc ⟨[.sl u.1 u.2.1 u.2.2], .fixed⟩) b.1 b.2.1 b.2.2 (.sl (some (M3.n, 0)) 1 (.known 1)) K = K (some (M3.n + 1, 0)) (b.2.1 + 1) (.unk 0) M4) ∧
      Wrote M0 M4 (hs ++ [h']) N S (some (M1.n + 1, 0), a.2.1 + 1, .unk 0) (some (M3.n + 1, 0), b.2.1 + 1, .unk 0) := by
  have hkl := (List.getElem?_eq_some_iff.1 hk).1
  have hl := h.lens
  have hln := h.len
  have hup := h.H.up.1
  obtain ⟨p0, v0, xs, hp0, hv0, hx, hld0, hvl0⟩ := h.look hkl
  obtain ⟨g, x, hg, hgx, hB⟩ := h.grp hr hkl hx
  have hxS := hsz xs (List.mem_of_getElem? hx)
  obtain ⟨M1, h', role1, c1, H1, n1, r1, y, hy, b1⟩ := h.H.clone hk hg (by omega)
  rw [hgx] at hy; cases hy
  obtain ⟨gs1, _, rs, _⟩ := h.H.grp g x hgx
  have fr : Fr role role1 M M1 := ⟨b1.1, fun z hz ho => b1.2 z hz (fun e => by rw [e, rs] at ho; cases ho), r1⟩
  have n01 := fr.n
  have pr1 := h.pr.fre fr
  obtain ⟨M2, q1, q2, q3, q4, q5⟩ := pr1.row.push (bytes := 8) (y := h') (cs := [.ptr (some (h', 0))]) encP1 (by omega) rfl (by omega)
  have ka : ∀ z ∈ fpOf a.1, z < M.n ∧ role z = .other ∧ r2 z = .ptrs := fun z hz => ⟨(h.pr.fr z hz).2.1, (h.pr.fr z hz).2.2, h.pr2 z hz⟩
  have kb : ∀ z ∈ fpOf b.1, z < M.n ∧ role z = .other ∧ r2 z = .book := fun z hz => (h.rfr z hz).2
  -- what stays up to M2
  have k2 : ∀ z, z < M.n → role z = .other → r2 z ≠ .ptrs → M2.get z = M.get z := fun z hz ho hne => by
    rw [q4.2 z (by omega) (fun hx => hne (ka z hx).2.2), fr.get z hz ho]
  have row2 : Row M2 1 encS b.1 b.2.1 b.2.2 vs := h.row.same (fun z hz => k2 z (kb z hz).1 (kb z hz).2.1 (by rw [(kb z hz).2.2]; exact nofun))
  have own2 : ∀ j v ys, vs[j]? = some v → bk[j]? = some ys → BkS M2 v ys := fun j v ys e1 e2 => by
    obtain ⟨o1, o2⟩ := h.own j v ys e1 e2
    exact o1.same (fun z hz => k2 z (o2 z hz).2.1 (o2 z hz).2.2.1 (by rw [(o2 z hz).2.2.2]; exact nofun))
  have hld2 : M2.ldL p0.1 (p0.2 + k) = some v0 := by
    have e1 := h.row.length
    obtain ⟨p, w1, w2⟩ := row2.sl.get encS1 (by omega) (i := k) (by omega)
    rw [hp0] at w1; cases w1
    have w3 := w2 0 (by omega)
    simp only [encS, List.getElem?_cons_zero, Nat.add_zero, Nat.mul_one] at w3
    have hvk : vs[k]'(by omega) = v0 := (List.getElem?_eq_some_iff.1 hv0).2
    unfold Mem.ldL; rw [w3, hvk]; rfl
  obtain ⟨M3, u, c3, u3, o3, f3⟩ := CopyBytes_O (M := M2) (a := v0.1) (l := v0.2.1) (c := v0.2.2) (own2 k v0 xs hv0 hx).bytes (by omega)
  have n23 := u3.1
  obtain ⟨M4, t1, t2, t3, t4, t5⟩ := (row2.upto encS1 (by omega) u3).push (bytes := 24) (y := u) (cs := [.sl u.1 u.2.1 u.2.2]) encS1 (by omega) rfl (by omega)
  have hul := o3.lt
  refine ⟨M1, h', M2, v0, M3, u, M4, c1, q1, ⟨p0, hp0, hld2⟩, c3, t1, ?_⟩
  let R' : Nat → Rl := fun z => if z < M1.n then role1 z else .other
  let T' : Nat → R2 := fun z => if z < M1.n then r2 z else if z < M2.n then .ptrs else if z < M3.n then .sl hs.length else .book
  have rl : ∀ z, z < M1.n → R' z = role1 z := fun z hz => by
    show (if z < M1.n then role1 z else Rl.other) = _
    rw [if_pos hz]
  have ro : ∀ z, ¬ z < M1.n → R' z = .other := fun z hz => by
    show (if z < M1.n then role1 z else Rl.other) = _
    rw [if_neg hz]
  have tl : ∀ z, z < M1.n → T' z = r2 z := fun z hz => by
    show (if z < M1.n then r2 z else if z < M2.n then R2.ptrs else if z < M3.n then .sl hs.length else .book) = _
    rw [if_pos hz]
  have t2' : ∀ z, ¬ z < M1.n → z < M2.n → T' z = .ptrs := fun z h1 h2 => by
    show (if z < M1.n then r2 z else if z < M2.n then R2.ptrs else if z < M3.n then .sl hs.length else .book) = _
    rw [if_neg h1, if_pos h2]
  have t3' : ∀ z, ¬ z < M2.n → z < M3.n → T' z = .sl hs.length := fun z h1 h2 => by
    show (if z < M1.n then r2 z else if z < M2.n then R2.ptrs else if z < M3.n then .sl hs.length else .book) = _
    rw [if_neg (by omega), if_neg h1, if_pos h2]
  have t4' : ∀ z, ¬ z < M3.n → T' z = .book := fun z h1 => by
    show (if z < M1.n then r2 z else if z < M2.n then R2.ptrs else if z < M3.n then .sl hs.length else .book) = _
    rw [if_neg (by omega), if_neg (by omega), if_neg h1]
  have k4 : ∀ z, z < M1.n → z ∉ fpOf a.1 → z ∉ fpOf b.1 → M4.get z = M1.get z := fun z hz h1 h2 => by
    rw [t4.2 z (by omega) h2, u3.2 z (by omega), q4.2 z hz h1]
  have H4 : SS M0 M4 R' (hs ++ [h']) (cur ++ [some g]) gs N := (H1.rerole (role' := R') rl).frame ⟨by omega, fun z hz => by
      rw [k4 z (by omega) (fun hx => by have := (h.pr.fr z hx).1; omega) (fun hx => by have := (h.rfr z hx).1; omega)]; exact H1.up.2 z hz⟩ (fun z hz hne => k4 z hz (fun hx => hne ((rl z hz).trans ((r1 z (ka z hx).1).trans (ka z hx).2.1))) (fun hx => hne ((rl z hz).trans ((r1 z (kb z hx).1).trans (kb z hx).2.1))))
  have knew : ∀ z, M1.n ≤ z → z < M3.n → M4.get z = M3.get z := fun z h1 h2 => t4.2 z h2 (fun hx => by have := (kb z hx).1; omega)
  refine ⟨R', T', cur ++ [some g], gs, vs ++ [u], bk ++ [xs], ⟨H4, fun j hj => ?_, ⟨?_, fun z hz => ?_⟩, fun z hz => ?_, t2, ⟨M3.n + 1, _, .grow 1, rfl, t5, rfl⟩, fun z hz => ?_, by simp; omega, fun j v ys e1 e2 => ?_⟩, ?_, ?_⟩
  · by_cases e : j < cur.length
    · rw [List.getElem?_append_left e]; exact h.all j e
    · rw [List.getElem?_append_right (by omega)]
      have : j - cur.length = 0 := by simp at hj; omega
      rw [this]; exact ⟨g, rfl⟩
  · refine q2.same (fun z hz => ?_)
    simp only [fpOf, List.mem_singleton] at hz
    subst hz
    rw [knew _ (by omega) (by omega), u3.2 _ (by omega)]
  · simp only [fpOf, List.mem_singleton] at hz
    subst hz
    exact ⟨by omega, by omega, ro _ (by omega)⟩
  · simp only [fpOf, List.mem_singleton] at hz
    subst hz
    exact t2' _ (by omega) (by omega)
  · simp only [fpOf, List.mem_singleton] at hz
    subst hz
    exact ⟨by omega, by omega, ro _ (by omega), t4' _ (by omega)⟩
  · by_cases e : j < vs.length
    · rw [List.getElem?_append_left e] at e1
      rw [List.getElem?_append_left (by omega)] at e2
      obtain ⟨o1, o2⟩ := h.own j v ys e1 e2
      refine ⟨o1.same (fun z hz => ?_), fun z hz => ?_⟩
      · have := o2 z hz
        rw [k4 z (by omega) (fun hx => by have e3 := (ka z hx).2.2; rw [this.2.2.2] at e3; cases e3) (fun hx => by have e3 := (kb z hx).2.2; rw [this.2.2.2] at e3; cases e3), fr.get z this.2.1 this.2.2.1]
      · have := o2 z hz
        exact ⟨this.1, by omega, (rl z (by omega)).trans ((r1 z this.2.1).trans this.2.2.1), (tl z (by omega)).trans this.2.2.2⟩
    · rw [List.getElem?_append_right (by omega)] at e1
      rw [List.getElem?_append_right (by omega)] at e2
      have hj0 : j - vs.length = 0 := by
        have := (List.getElem?_eq_some_iff.1 e1).1
        simp at this; omega
      rw [hj0] at e1
      rw [show j - bk.length = 0 from by omega] at e2
      cases e1; cases e2
      refine ⟨(BkS.own o3).same (fun z hz => knew z (by have := f3 z hz; omega) (hul z hz)), fun z hz => ?_⟩
      have e3 := f3 z hz
      have e4 := hul z hz
      exact ⟨by omega, by omega, ro _ (by omega), by rw [t3' z (by omega) e4]; congr 1; omega⟩
  · intro j g2 z zs e1 e2 e3
    by_cases e : j < cur.length
    · rw [List.getElem?_append_left e] at e1
      rw [List.getElem?_append_left (by omega)] at e3
      exact hr j g2 z zs e1 e2 e3
    · rw [List.getElem?_append_right (by omega)] at e1
      rw [List.getElem?_append_right (by omega)] at e3
      have hj0 : j - cur.length = 0 := by
        have := (List.getElem?_eq_some_iff.1 e1).1
        simp at this; omega
      rw [hj0] at e1
      rw [show j - bk.length = 0 from by omega] at e3
      cases e1; cases e3
      rw [hgx] at e2; cases e2
      exact hB
  · intro zs hz
    simp only [List.mem_append, List.mem_singleton] at hz
    rcases hz with hz | rfl
    · exact hsz zs hz
    · exact hxS
end
theorem apart_steps {M0 : Mem} {a1 : Option (Nat × Nat)} {l1 : Nat} {cq : Cap} (hv : ArgRows M0 [.int .i64, .int .i64, .int .i64, .int .i64, .int .i64, .int .u64, .sl 1 [.int .u8]] a1 l1 cq) :
    ∀ (d i : Nat) (M : Mem) (hs : List Nat) (N : Nat) (a b : SlV), i + d = 100 → N ≤ i → 0 < hs.length → Wrote M0 M hs N (64 + i) a b →
      ∃ M', p4_2 C prog.meth a1 l1 cq a.1 a.2.1 a.2.2 b.1 b.2.1 b.2.2 i M = some (.bool true, M') := by
  intro d
  induction d with
  | zero =>
    intro i M hs N a b hi hN hpos hw
    have hE := p4_2_eq C prog.meth a1 l1 cq a.1 a.2.1 a.2.2 b.1 b.2.1 b.2.2 i M
    have h100 : ¬ ((i : Int) < 100) := by omega
    simp only [h100, decide_false, cond_false] at hE
    exact ⟨M, by rw [hE]; cases decide ((i : Int) < (l1 : Int)) <;> rfl⟩
  | succ d ih =>
    intro i M hs N a b hi hN hpos hwr
    have hE := p4_2_eq C prog.meth a1 l1 cq a.1 a.2.1 a.2.2 b.1 b.2.1 b.2.2 i M
    by_cases hl1 : (i : Int) < (l1 : Int)
    rotate_left
    · simp only [hl1, decide_false, cond_false] at hE
      exact ⟨M, hE⟩
    have h100 : ((i : Int) < 100) := by omega
    simp only [h100, hl1, decide_true, cond_true] at hE
    have hwi : IntKind.wrap .i64 ((i : Int) + 1) = ((i + 1 : Nat) : Int) := by rw [wrap_i64 (by omega) (by omega)]; rfl
    obtain ⟨role, r2, cur, gs, vs, bk, h, hr, hsz⟩ := hwr
    -- behind a call
    have tail : ∀ (M : Mem) (hs : List Nat) (a b : SlV) (N S : Nat), N ≤ i + 1 → S ≤ 64 + (i + 1) → 0 < hs.length → Wrote M0 M hs N S a b → ∃ M', p4_5 C prog.meth a1 l1 cq a.1 a.2.1 a.2.2 b.1 b.2.1 b.2.2 i M = some (.bool true, M') := by
      intro M hs a b N S hN hS hpos hw
      obtain ⟨role, r2, cur, gs, vs, bk, h, hr, hsz⟩ := hw
      have hE := p4_5_eq C prog.meth a1 l1 cq a.1 a.2.1 a.2.2 b.1 b.2.1 b.2.2 i M
      obtain ⟨M1, e1, u1⟩ := apart_look (a1 := a1) (l1 := l1) (cq := cq) (i := (i : Int)) hr hsz (by omega) hs.length 0 M (by omega) h
      rw [hwi] at e1
      obtain ⟨M', e2⟩ := ih (i + 1) M1 hs N a b (by omega) hN hpos ⟨role, r2, cur, gs, vs, bk, h.upto u1, hr, fun xs hx => Nat.le_trans (hsz xs hx) hS⟩
      exact ⟨M', hE.trans (e1.trans e2)⟩
    have hup := h.H.up
    have hl := h.lens
    obtain ⟨s, ws, hs1, hsn, hs, hld⟩ := hv i (by omega)
    simp only [ShowsR] at hs
    obtain ⟨v0, w0, rfl, hb0, v1, w1, rfl, hb1, v2, w2, rfl, hb2, v3, w3, rfl, hb3, v4, w4, rfl, hb4, v5, w5, rfl, hb5, v6, w6, rfl, hb6, rfl⟩ := hs
    simp only [Shows] at hb0 hb1 hb2 hb3 hb4 hb5
    obtain ⟨kd, rfl, _⟩ := hb0
    obtain ⟨who, rfl, _⟩ := hb1
    obtain ⟨at_, rfl, _⟩ := hb2
    obtain ⟨sz, rfl, _⟩ := hb3
    obtain ⟨nn, rfl, _⟩ := hb4
    obtain ⟨V, rfl, _⟩ := hb5
    obtain ⟨da, dl, dc, rfl, _⟩ := hb6.form
    have ld0 : M.ldI .i64 s.1 (s.2 + i * 7) = some kd := ldI_ld.2 (by simpa using hld M hup 0 (by simp))
    have ld1 : M.ldI .i64 s.1 (s.2 + (i * 7 + 1)) = some who := ldI_ld.2 (by simpa using hld M hup 1 (by simp))
    have ld2 : M.ldI .i64 s.1 (s.2 + (i * 7 + (1 + 1))) = some at_ := ldI_ld.2 (by simpa using hld M hup 2 (by simp))
    have ld3 : M.ldI .i64 s.1 (s.2 + (i * 7 + (1 + (1 + 1)))) = some sz := ldI_ld.2 (by simpa using hld M hup 3 (by simp))
    have ld4 : M.ldI .i64 s.1 (s.2 + (i * 7 + (1 + (1 + (1 + 1))))) = some nn := ldI_ld.2 (by simpa using hld M hup 4 (by simp))
    have ld5 : M.ldI .u64 s.1 (s.2 + (i * 7 + (1 + (1 + (1 + (1 + 1)))))) = some V := ldI_ld.2 (by simpa using hld M hup 5 (by simp))
    have ld6 : M.ldL s.1 (s.2 + (i * 7 + (1 + (1 + (1 + (1 + (1 + 1))))))) = some (da, dl, dc) := by
      have : M.ld s.1 (s.2 + (i * 7 + (1 + (1 + (1 + (1 + (1 + 1))))))) = some (.sl da dl dc) := by simpa using hld M hup 6 (by simp)
      unfold Mem.ldL; rw [this]; rfl
    have h0 : (0 : Int) ≤ (i : Int) := by omega
    have h2 : Nat.blt i l1 = true := Mem.blt_iff.2 (by omega)
    have hE3 := p4_3_eq C prog.meth a1 l1 cq a.1 a.2.1 a.2.2 b.1 b.2.1 b.2.2 i M
    simp only [h0, decide_true, cond_true, Int.toNat_natCast, h2, hs1, Option.bind_some, Nat.add_assoc, ld0, ld1, ld2, ld3, ld4, ld5, ld6] at hE3
    have u1 := Mem.Upto.alloc M ⟨[.int .i64 0, .int .i64 0, .int .i64 0, .int .i64 0, .int .i64 0, .int .u64 0, .sl none 0 (.known 0)], .fixed⟩
    have g1 := get_alloc_self M ⟨[.int .i64 0, .int .i64 0, .int .i64 0, .int .i64 0, .int .i64 0, .int .u64 0, .sl none 0 (.known 0)], .fixed⟩
    generalize M.alloc ⟨[.int .i64 0, .int .i64 0, .int .i64 0, .int .i64 0, .int .i64 0, .int .u64 0, .sl none 0 (.known 0)], .fixed⟩ = M1 at hE3 u1 g1
    have hml := Mem.get_lt g1
    have hst := st_fix (i := 0) (vs := [.int .i64 kd, .int .i64 who, .int .i64 at_, .int .i64 sz, .int .i64 nn, .int .u64 V, .sl da dl dc]) g1 (by simp)
    have hov : overL [.int .i64 0, .int .i64 0, .int .i64 0, .int .i64 0, .int .i64 0, .int .u64 0, .sl none 0 (.known 0)] 0 [.int .i64 kd, .int .i64 who, .int .i64 at_, .int .i64 sz, .int .i64 nn, .int .u64 V, .sl da dl dc] = [.int .i64 kd, .int .i64 who, .int .i64 at_, .int .i64 sz, .int .i64 nn, .int .u64 V, .sl da dl dc] := rfl
    rw [hov] at hst
    have g2 : (M1.put M.n ⟨[.int .i64 kd, .int .i64 who, .int .i64 at_, .int .i64 sz, .int .i64 nn, .int .u64 V, .sl da dl dc], .fixed⟩).get M.n = some ⟨[.int .i64 kd, .int .i64 who, .int .i64 at_, .int .i64 sz, .int .i64 nn, .int .u64 V, .sl da dl dc], .fixed⟩ := get_put_self hml
    have u2 : M.Upto (M1.put M.n ⟨[.int .i64 kd, .int .i64 who, .int .i64 at_, .int .i64 sz, .int .i64 nn, .int .u64 V, .sl da dl dc], .fixed⟩) := ⟨u1.1, fun x hx => by rw [get_put_ne (by omega), u1.2 x hx]⟩
    generalize M1.put M.n ⟨[.int .i64 kd, .int .i64 who, .int .i64 at_, .int .i64 sz, .int .i64 nn, .int .u64 V, .sl da dl dc], .fixed⟩ = M2 at hst g2 u2
    have i0 : M2.ldI .i64 M.n 0 = some kd := ldI_ld.2 (by rw [ld_fix g2]; rfl)
    have i1 : M2.ldI .i64 M.n 1 = some who := ldI_ld.2 (by rw [ld_fix g2]; rfl)
    have i2 : M2.ldI .i64 M.n 2 = some at_ := ldI_ld.2 (by rw [ld_fix g2]; rfl)
    have i3 : M2.ldI .i64 M.n 3 = some sz := ldI_ld.2 (by rw [ld_fix g2]; rfl)
    have i4 : M2.ldI .i64 M.n 4 = some nn := ldI_ld.2 (by rw [ld_fix g2]; rfl)
    have i5 : M2.ldI .u64 M.n 5 = some V := ldI_ld.2 (by rw [ld_fix g2]; rfl)
    have i6 : M2.ldL M.n 6 = some (da, dl, dc) := by unfold Mem.ldL; rw [ld_fix g2]; rfl
    have hh := h.upto u2
    obtain ⟨k, hk, ck⟩ := Bring_C (i := who) (n := (a.2.1 : Int)) (M := Mem.empty) (by omega) (by omega)
    obtain ⟨q, hq, cq3⟩ := Bring_C (i := kd) (n := 3) (M := Mem.empty) (by omega) (by omega)
    have hkl : k < a.2.1 := by omega
    have k0 : (0 : Int) ≤ (k : Int) := by omega
    have k2 : Nat.blt k a.2.1 = true := Mem.blt_iff.2 hkl
    have k3 : Nat.blt k b.2.1 = true := Mem.blt_iff.2 (by omega)
    obtain ⟨p, hp, hd, hhd, ep⟩ := hh.pr.ld hkl
    obtain ⟨Mw, cw, hwr⟩ := written_C (kd := kd) (who := who) (at_ := at_) (sz := sz) (nn := nn) (V := V) (da := da) (dl := dl) (dc := dc) hh hr hhd hsz (by omega) (by omega)
    obtain ⟨M', e⟩ := tail Mw _ a b (N + 1) (64 + i + 1) (by omega) (by omega) hpos hwr
    simp only [Option.bind_some, List.getElem?_cons_zero, List.getElem?_cons_succ, int?_int, AVal.bool?, AVal.ptr?, AVal.sl?, AVal.tup?, AVal.agg?, AVal.ifc?, AVal.fn?, AVal.str?, List.head?_cons, List.tail_cons, List.isEmpty_nil, cond_true, cond_false, Option.isNone_some, Option.isNone_none, Bool.not_true, Bool.not_false, decide_true, decide_false, beq_self_eq_true, bne_self_eq_false, Int.reduceBEq, Int.reduceBNe, Int.cast_ofNat_Int, hst, i0, i1, ck, cq3] at hE3
    by_cases hq0 : q = 0
    · subst hq0
      by_cases h10 : a.2.1 < 10
      · have d10 : ((a.2.1 : Int) < 10) := by omega
        have t0 : (((0 : Nat) : Int) == 0) = true := rfl
        simp only [t0, d10, decide_true, cond_true] at hE3
        have hE4 := p4_4_eq C prog.meth a1 l1 cq a.1 a.2.1 a.2.2 b.1 b.2.1 b.2.2 i k M2
        obtain ⟨M3, h', M4, xv, M5, u, M6, c1, s1, ⟨pb, hpb, hldb⟩, c2, s2, hwr2⟩ := hh.clone hr hhd (by omega) hsz (by omega)
        simp only [Option.bind_some, List.getElem?_cons_zero, List.getElem?_cons_succ, int?_int, AVal.bool?, AVal.ptr?, AVal.sl?, AVal.tup?, AVal.agg?, AVal.ifc?, AVal.fn?, AVal.str?, List.head?_cons, List.tail_cons, List.isEmpty_nil, cond_true, cond_false, Option.isNone_some, Option.isNone_none, Bool.not_true, Bool.not_false, decide_true, decide_false, beq_self_eq_true, bne_self_eq_false, Int.reduceBEq, Int.reduceBNe, Int.cast_ofNat_Int, k0, Int.toNat_natCast, k2, hp, Nat.mul_one, ep, c1] at hE4
        have hE6 := p4_6_eq C prog.meth a1 l1 cq a.1 a.2.1 a.2.2 b.1 b.2.1 b.2.2 i k (some (h', 0)) M3
        simp only [Option.bind_some, List.getElem?_cons_zero, List.getElem?_cons_succ, int?_int, AVal.bool?, AVal.ptr?, AVal.sl?, AVal.tup?, AVal.agg?, AVal.ifc?, AVal.fn?, AVal.str?, List.head?_cons, List.tail_cons, List.isEmpty_nil, cond_true, cond_false, Option.isNone_some, Option.isNone_none, Bool.not_true, Bool.not_false, decide_true, decide_false, beq_self_eq_true, bne_self_eq_false, Int.reduceBEq, Int.reduceBNe, Int.cast_ofNat_Int, s1, k0, Int.toNat_natCast, k3, hpb, Nat.mul_one, hldb, c2, s2] at hE6
        obtain ⟨M', e⟩ := tail M6 _ (some (M3.n + 1, 0), a.2.1 + 1, .unk 0) (some (M5.n + 1, 0), b.2.1 + 1, .unk 0) N (64 + i) (by omega) (by omega) (by simp) hwr2
        exact ⟨M', hE.trans (hE3.trans (hE4.trans (hE6.trans e)))⟩
      · have d10 : ¬ ((a.2.1 : Int) < 10) := by omega
        have t0 : (((0 : Nat) : Int) == 0) = true := rfl
        simp only [Option.bind_some, List.getElem?_cons_zero, List.getElem?_cons_succ, int?_int, AVal.bool?, AVal.ptr?, AVal.sl?, AVal.tup?, AVal.agg?, AVal.ifc?, AVal.fn?, AVal.str?, List.head?_cons, List.tail_cons, List.isEmpty_nil, cond_true, cond_false, Option.isNone_some, Option.isNone_none, Bool.not_true, Bool.not_false, decide_true, decide_false, beq_self_eq_true, bne_self_eq_false, Int.reduceBEq, Int.reduceBNe, Int.cast_ofNat_Int, t0, d10, k0, Int.toNat_natCast, k2, hp, Nat.mul_one, ep, i2, i3, i4, i5, i6, i0, i1, cw] at hE3
        exact ⟨M', hE.trans (hE3.trans e)⟩
    · have t0 : (((q : Nat) : Int) == 0) = false := by simp; omega
      simp only [Option.bind_some, List.getElem?_cons_zero, List.getElem?_cons_succ, int?_int, AVal.bool?, AVal.ptr?, AVal.sl?, AVal.tup?, AVal.agg?, AVal.ifc?, AVal.fn?, AVal.str?, List.head?_cons, List.tail_cons, List.isEmpty_nil, cond_true, cond_false, Option.isNone_some, Option.isNone_none, Bool.not_true, Bool.not_false, decide_true, decide_false, beq_self_eq_true, bne_self_eq_false, Int.reduceBEq, Int.reduceBNe, Int.cast_ofNat_Int, t0, k0, Int.toNat_natCast, k2, hp, Nat.mul_one, ep, i2, i3, i4, i5, i6, i0, i1, cw] at hE3
      exact ⟨M', hE.trans (hE3.trans e)⟩
theorem apart_first {M0 : Mem} {ba : Option (Nat × Nat)} {bl : Nat} {bc : Cap} {xs : List Int} {a1 : Option (Nat × Nat)} {l1 : Nat} {cq : Cap} (hv : ArgRows M0 [.int .i64, .int .i64, .int .i64, .int .i64, .int .i64, .int .u64, .sl 1 [.int .u8]] a1 l1 cq) (hx : M0.ints .u8 ba bl bc = some xs) (hbl : bl ≤ 64) :
    ∃ M', p4_1 C prog.meth ba bl bc a1 l1 cq M0 = some (.bool true, M') := by
  have hxl := ints_length hx
  have hE := p4_1_eq C prog.meth ba bl bc a1 l1 cq M0
  obtain ⟨M1, h, x, role, c1, u1, H, hB, hro⟩ := SNew_C hx (by omega) (Mem.Upto.refl M0)
  have hup := H.up.1
  have u2 := Mem.Upto.alloc M1 ⟨[.ptr (some (h, 0))], .fixed⟩
  have g2 := get_alloc_self M1 ⟨[.ptr (some (h, 0))], .fixed⟩
  have n2 : (M1.alloc ⟨[.ptr (some (h, 0))], .fixed⟩).n = M1.n + 1 := rfl
  simp only [Option.bind_some, List.getElem?_cons_zero, List.getElem?_cons_succ, int?_int, AVal.bool?, AVal.ptr?, AVal.sl?, AVal.tup?, AVal.agg?, AVal.ifc?, AVal.fn?, AVal.str?, List.head?_cons, List.tail_cons, List.isEmpty_nil, cond_true, cond_false, Option.isNone_some, Option.isNone_none, Bool.not_true, Bool.not_false, decide_true, decide_false, beq_self_eq_true, bne_self_eq_false, Int.reduceBEq, Int.reduceBNe, Int.cast_ofNat_Int, c1] at hE
  generalize M1.alloc ⟨[.ptr (some (h, 0))], .fixed⟩ = M2 at hE u2 g2 n2
  obtain ⟨M3, u, c3, u3, o3, f3⟩ := CopyBytes_O (ints_upto hx (u1.trans u2)) (by omega)
  have n3 := u3.1
  have u4 := Mem.Upto.alloc M3 ⟨[.sl u.1 u.2.1 u.2.2], .fixed⟩
  have g4 := get_alloc_self M3 ⟨[.sl u.1 u.2.1 u.2.2], .fixed⟩
  have n4 : (M3.alloc ⟨[.sl u.1 u.2.1 u.2.2], .fixed⟩).n = M3.n + 1 := rfl
  simp only [Option.bind_some, List.getElem?_cons_zero, List.getElem?_cons_succ, int?_int, AVal.bool?, AVal.ptr?, AVal.sl?, AVal.tup?, AVal.agg?, AVal.ifc?, AVal.fn?, AVal.str?, List.head?_cons, List.tail_cons, List.isEmpty_nil, cond_true, cond_false, Option.isNone_some, Option.isNone_none, Bool.not_true, Bool.not_false, decide_true, decide_false, beq_self_eq_true, bne_self_eq_false, Int.reduceBEq, Int.reduceBNe, Int.cast_ofNat_Int, c3] at hE
  generalize M3.alloc ⟨[.sl u.1 u.2.1 u.2.2], .fixed⟩ = M4 at hE u4 g4 n4
  have hul := o3.lt
  let R' : Nat → Rl := fun z => if z < M1.n then role z else .other
  let T' : Nat → R2 := fun z => if z = M1.n then .ptrs else if z = M3.n then .book else .sl 0
  have rl : ∀ z, z < M1.n → R' z = role z := fun z hz => by
    show (if z < M1.n then role z else Rl.other) = _
    rw [if_pos hz]
  have ro : ∀ z, ¬ z < M1.n → R' z = .other := fun z hz => by
    show (if z < M1.n then role z else Rl.other) = _
    rw [if_neg hz]
  have hrow : Row M2 1 encP (some (M1.n, 0)) 1 (.known 1) [h] := ⟨Sl.of g2 (by simp) rfl (by simp) (by simp [encP]) rfl, .inl rfl⟩
  have hrow4 : Row M4 1 encS (some (M3.n, 0)) 1 (.known 1) [u] := ⟨Sl.of g4 (by simp) rfl (by simp) (by simp [encS]) rfl, .inl rfl⟩
  have hw : Wrote M0 M4 [h] 0 (64 + 0) (some (M1.n, 0), 1, .known 1) (some (M3.n, 0), 1, .known 1) := by
    refine ⟨R', T', [some 0], [x], [u], [xs], ⟨(H.rerole (role' := R') rl).upto (u2.trans (u3.trans u4)), fun j hj => ?_, ⟨hrow.upto encP1 (by omega) (u3.trans u4), fun z hz => ?_⟩, fun z hz => ?_, hrow4, ⟨M3.n, _, .fixed, rfl, g4, rfl⟩, fun z hz => ?_, ⟨rfl, rfl⟩, fun j v ys e1 e2 => ?_⟩, ?_, ?_⟩
    · obtain rfl : j = 0 := by simp at hj; omega
      exact ⟨0, rfl⟩
    · simp only [fpOf, List.mem_singleton] at hz
      subst hz
      exact ⟨by omega, by omega, ro _ (by omega)⟩
    · simp only [fpOf, List.mem_singleton] at hz
      subst hz
      show (if M1.n = M1.n then R2.ptrs else _) = _
      rw [if_pos rfl]
    · simp only [fpOf, List.mem_singleton] at hz
      subst hz
      refine ⟨by omega, by omega, ro _ (by omega), ?_⟩
      show (if M3.n = M1.n then R2.ptrs else if M3.n = M3.n then .book else .sl 0) = _
      rw [if_neg (by omega), if_pos rfl]
    · cases j with
      | succ j => simp at e1
      | zero =>
        cases e1; cases e2
        refine ⟨(BkS.own o3).same (fun z hz => u4.2 z (hul z hz)), fun z hz => ?_⟩
        have e3 := f3 z hz
        have e4 := hul z hz
        refine ⟨by omega, by omega, ro _ (by omega), ?_⟩
        show (if z = M1.n then R2.ptrs else if z = M3.n then .book else .sl 0) = _
        rw [if_neg (by omega), if_neg (by omega)]
    · intro j g y ys e1 e2 e3
      cases j with
      | succ j => simp at e1
      | zero =>
        cases e1; cases e2; cases e3
        exact hB
    · intro ys hy
      simp only [List.mem_singleton] at hy
      subst hy; omega
  obtain ⟨M', e⟩ := apart_steps hv 100 0 M4 [h] 0 _ _ (by omega) (Nat.le_refl _) (by simp) hw
  exact ⟨M', hE.trans e⟩
theorem ShareApart_C {M0 : Mem} {ba : Option (Nat × Nat)} {bl : Nat} {bc : Cap} {xs : List Int} {a1 : Option (Nat × Nat)} {l1 : Nat} {cq : Cap} (hv : ArgRows M0 [.int .i64, .int .i64, .int .i64, .int .i64, .int .i64, .int .u64, .sl 1 [.int .u8]] a1 l1 cq) (hs : Shows M0 (.sl 1 [.int .u8]) (.sl ba bl bc)) (hx : M0.ints .u8 ba bl bc = some xs) :
    ∃ M', C 4 [.sl ba bl bc, .sl a1 l1 cq] M0 = some (.bool true, M') := by
  have hE := p4_0_eq C prog.meth ba bl bc a1 l1 cq M0
  obtain ⟨Ma, hawake⟩ := awake04_C
  by_cases hl : (bl : Int) > 64
  · obtain ⟨k1, k2⟩ := cut_arg (n := 64) (kh := .i64) hs hx (by omega) (by omega) (Mem.Upto.refl M0)
    have k1' : ∀ {β : Type} (K : Option (Nat × Nat) → Nat → Cap → Option β), slcK false 1 ba bl bc M0 none (some (.int .i64 64)) none K = K ba 64 bc := fun K => k1 K
    simp only [Option.bind_some, List.getElem?_cons_zero, List.getElem?_cons_succ, int?_int, AVal.bool?, AVal.ptr?, AVal.sl?, AVal.tup?, AVal.agg?, AVal.ifc?, AVal.fn?, AVal.str?, List.head?_cons, List.tail_cons, List.isEmpty_nil, cond_true, cond_false, Option.isNone_some, Option.isNone_none, Bool.not_true, Bool.not_false, decide_true, decide_false, beq_self_eq_true, bne_self_eq_false, Int.reduceBEq, Int.reduceBNe, Int.cast_ofNat_Int, hawake, hl, k1'] at hE
    obtain ⟨M', q⟩ := apart_first hv k2 (Nat.le_refl _)
    exact ⟨M', c4 (hE.trans q)⟩
  · simp only [Option.bind_some, List.getElem?_cons_zero, List.getElem?_cons_succ, int?_int, AVal.bool?, AVal.ptr?, AVal.sl?, AVal.tup?, AVal.agg?, AVal.ifc?, AVal.fn?, AVal.str?, List.head?_cons, List.tail_cons, List.isEmpty_nil, cond_true, cond_false, Option.isNone_some, Option.isNone_none, Bool.not_true, Bool.not_false, decide_true, decide_false, beq_self_eq_true, bne_self_eq_false, Int.reduceBEq, Int.reduceBNe, Int.cast_ofNat_Int, hawake, hl] at hE
    obtain ⟨M', q⟩ := apart_first hv hx (by omega)
    exact ⟨M', c4 (hE.trans q)⟩
theorem ShareApart_law : ∀ avs M, M.Whole → okL M.n avs → ShowsArgs M [(false, [.sl 1 [.int .u8]]), (false, [.sl 72 [.int .i64, .int .i64, .int .i64, .int .i64, .int .i64, .int .u64, .sl 1 [.int .u8]]])] avs → ∃ M', C 4 avs M = some (.bool true, M') := by
  intro avs M hM hok h
  simp only [ShowsArgs, ShowsArg] at h
  obtain ⟨v, _, rfl, ⟨t, ht, hv⟩, w, _, rfl, ⟨t', ht', hw⟩, rfl⟩ := h
  obtain rfl : t = .sl 1 [.int .u8] := by simpa using ht.symm
  obtain rfl : t' = .sl 72 [.int .i64, .int .i64, .int .i64, .int .i64, .int .i64, .int .u64, .sl 1 [.int .u8]] := by simpa using ht'.symm
  obtain ⟨a, l, c, xs, rfl, hx, hl, hwf⟩ := hv.ints
  obtain ⟨a1, l1, c1, rfl, hl1⟩ := hw.form
  exact ShareApart_C (fun i hi => hw.row hi) hv hx
end Go.Proofs.Ytfdlmneofbcpnaa.M
