/- ShareApart: written. -/
import Derived.Test.YtfdlmneofbcpnaaSA
set_option linter.unusedVariables false
set_option linter.unusedSimpArgs false
set_option linter.unnecessarySimpa false
set_option maxRecDepth 100000
namespace Go.Proofs.Ytfdlmneofbcpnaa.M
open Go.Abs

theorem PPoke {M : Mem} {p o : Nat} {B : List Int} {a t mv k : Nat} {y : Int} (h : IsP M p o B a t mv) (hk : k < B.length) : ∃ i M', C 28 [.ptr (some (p, 0))] M = some (.sl (some (o, i)) B.length (.known B.length), M) ∧ M.st o (i + k) [.int .u8 y] = some M' ∧ IsP M' p o (B.set k y) a t mv ∧ Mem.But (· = o) M M' := by
  obtain ⟨i, c1, hi, _⟩ := PData_C h
  have hi := hi (by omega)
  subst hi
  obtain ⟨xs, ys, g, hx, hy⟩ := h.go
  have s1 := st_fix (i := i + k) (vs := [.int .u8 y]) g (by simp; omega)
  rw [overL_one, ← List.map_set, List.set_append_right _ _ (by omega), show i + k - xs.length = k from by omega, List.set_append_left _ _ hk] at s1
  have b := Mem.But.put M o ⟨(xs ++ (B.set k y ++ ys)).map (.int .u8), .fixed⟩
  exact ⟨i, _, c1, s1, ⟨by rw [List.length_set, b.2 p h.lt.1 h.ne]; exact h.gp, ⟨xs, ys, get_put_self (Mem.get_lt g), hx, hy⟩, h.ne, by rw [List.length_set]; exact h.sz, by rw [List.length_set]; exact h.all⟩, b⟩
theorem storeB_one {B : List Int} {k : Nat} {V : Int} (hk : k < B.length) : storeB B (k : Int) 1 V = B.set k (IntKind.wrap .u8 V) := by
  have e1 : (1 : Int).toNat = 1 := rfl
  have e2 : (B.drop k).take 1 = [B[k]] := by rw [List.drop_eq_getElem_cons hk]; rfl
  have e3 : stB 1 V 0 = IntKind.wrap .u8 V := by
    unfold stB
    have w1 : IntKind.wrap .i64 ((1 : Int) - 1) = 0 := rfl
    have w2 : IntKind.wrap .i64 ((0 : Int) - ((0 : Nat) : Int)) = 0 := rfl
    have w3 : IntKind.wrap .i64 (8 * (0 : Int)) = 0 := rfl
    rw [w1, w2, w3]
    have : (2 : Int) ^ Nat.min (0 : Int).toNat (IntKind.bits .u64) = 1 := rfl
    rw [this, Int.fdiv_one]
  unfold storeB
  rw [Int.toNat_natCast, e1, e2]
  have e4 : stL 1 V 1 0 [B[k]] = [IntKind.wrap .u8 V] := by
    show [B[k]].set 0 (stB 1 V 0) = _
    rw [e3]; rfl
  rw [e4]
  apply List.ext_getElem?
  intro j
  rw [List.getElem?_set]
  by_cases e : k = j
  · subst e
    rw [if_pos rfl, if_pos hk, List.getElem?_append_right (by simp; omega)]
    simp [Nat.min_eq_left (Nat.le_of_lt hk)]
  · rw [if_neg e]
    by_cases e5 : j < k
    · rw [List.getElem?_append_left (by simp; omega), List.getElem?_take, if_pos e5]
    · rw [List.getElem?_append_right (by simp; omega)]
      have : (B.take k).length = k := by simp; omega
      rw [this, List.singleton_append, show j - k = (j - k - 1) + 1 from by omega, List.getElem?_cons_succ, List.getElem?_drop]
      congr 1; omega
section
variable {M0 M M' : Mem} {role role' : Nat → Rl} {r2 : Nat → R2} {hs : List Nat} {cur cur' : List (Option Nat)} {gs gs' : List Grp} {N N' k hd S : Nat} {a b v v' : SlV} {vs : List SlV} {bk : List (List Int)} {xs xs' : List Int}
theorem AP.lens (h : AP M0 M role r2 hs cur gs N a b vs bk) : b.2.1 = hs.length ∧ cur.length = hs.length ∧ a.2.1 = hs.length ∧ hs.length ≤ 1000 := by
  have e1 := h.row.length
  have e2 := h.len
  have e3 := h.H.len
  have e4 := h.pr.row.length
  have e5 := h.H.few
  omega
theorem AP.look (h : AP M0 M role r2 hs cur gs N a b vs bk) (hk : k < hs.length) : ∃ p v xs, slPtr b.1 b.2.2 = some p ∧ vs[k]? = some v ∧ bk[k]? = some xs ∧ M.ldL p.1 (p.2 + k) = some v ∧ xs.length = v.2.1 := by
  have e2 := h.len
  have e1 := h.row.length
  obtain ⟨p, h1, h2⟩ := h.row.sl.get encS1 (by omega) (i := k) (by omega)
  have h3 := h2 0 (by omega)
  simp only [encS, List.getElem?_cons_zero, Nat.add_zero, Nat.mul_one] at h3
  have hv : vs[k]? = some (vs[k]'(by omega)) := List.getElem?_eq_getElem (by omega)
  have hx : bk[k]? = some (bk[k]'(by omega)) := List.getElem?_eq_getElem (by omega)
  exact ⟨p, _, _, h1, hv, hx, by unfold Mem.ldL; rw [h3]; rfl, (h.own k _ _ hv hx).1.len⟩
theorem AP.mono (h : AP M0 M role r2 hs cur gs N a b vs bk) (hN : N ≤ N') : AP M0 M role r2 hs cur gs N' a b vs bk := ⟨h.H.mono hN, h.all, h.pr, h.pr2, h.row, h.rmi, h.rfr, h.len, h.own⟩
theorem AP.grp (h : AP M0 M role r2 hs cur gs N a b vs bk) (hr : Rel cur gs bk) (hk : k < hs.length) (hx : bk[k]? = some xs) : ∃ g x, cur[k]? = some (some g) ∧ gs[g]? = some x ∧ x.B = xs := by
  obtain ⟨g, hg⟩ := h.all k (by have := h.lens; omega)
  have hgl := h.H.inb k g hg
  have hgx : gs[g]? = some gs[g] := List.getElem?_eq_getElem hgl
  exact ⟨g, gs[g], hg, hgx, hr k g _ xs hg hgx hx⟩
theorem Owned.all {g g' : Nat} {x x' : Grp} (ow : Owned cur gs k g x cur' gs' g' x') (h : ∀ j, j < cur.length → ∃ g, cur[j]? = some (some g)) : ∀ j, j < cur'.length → ∃ g, cur'[j]? = some (some g) := by
  rcases ow with ⟨o1, rfl, rfl, rfl, o5⟩ | ⟨o1, rfl, rfl, rfl, rfl⟩
  · intro j hj
    rw [List.length_set] at hj
    rw [List.getElem?_set]
    by_cases e : k = j
    · subst e
      rw [if_pos rfl, if_pos hj]; exact ⟨_, rfl⟩
    · rw [if_neg e]; exact h j hj
  · exact h
theorem sz_set {y : List Int} (hs : ∀ xs ∈ bk, xs.length ≤ S) (hy : y.length ≤ S + 1) : ∀ xs ∈ bk.set k y, xs.length ≤ S + 1 := fun xs hx => by
  rcases List.mem_or_eq_of_mem_set hx with h | rfl
  · have := hs xs h; omega
  · exact hy
/-- Own, in the midst of the book. -/
theorem AP.owned (h : AP M0 M role r2 hs cur gs N a b vs bk) (hr : Rel cur gs bk) (hk : hs[k]? = some hd) (hx : bk[k]? = some xs) :
    ∃ M' role' cur' gs' g' x', C 22 [.ptr (some (hd, 0))] M = some (.tup [.ptr (some (x'.p, 0)), .int .i64 0], M') ∧ AP M0 M' role' r2 hs cur' gs' N a b vs bk ∧ Rel cur' gs' bk ∧ Solo cur' k g' ∧ cur'[k]? = some (some g') ∧ gs'[g']? = some x' ∧ x'.B = xs ∧ Fr role role' M M' := by
  have hkl := (List.getElem?_eq_some_iff.1 hk).1
  obtain ⟨g, x, hg, hgx, hB⟩ := h.grp hr hkl hx
  obtain ⟨M', role', cur', gs', g', x', c1, H', ow, hc', hx', hB', fr⟩ := h.H.own hk hg hgx
  obtain ⟨r1, r2'⟩ := hr.own hg hgx h.H.inb ow
  exact ⟨M', role', cur', gs', g', x', c1, h.fre fr H' (ow.all h.all), r1, r2', hc', hx', hB'.trans hB, fr⟩
/-- What is wanted of `written`. -/
def Wrote (M0 M : Mem) (hs : List Nat) (N S : Nat) (a b : SlV) : Prop := ∃ role r2 cur gs vs bk, AP M0 M role r2 hs cur gs N a b vs bk ∧ Rel cur gs bk ∧ (∀ xs ∈ bk, xs.length ≤ S)
theorem written0 {box at_ : Nat} {V : Int} (h : AP M0 M role r2 hs cur gs N a b vs bk) (hr : Rel cur gs bk) (hk : hs[k]? = some hd) (hx : bk[k]? = some xs) (hsz : ∀ xs ∈ bk, xs.length ≤ S) (hS : S ≤ 1000) (hat : at_ ≤ xs.length) (hbl : box < M.n) (hbr : role box = .other) (hbv : M.ldI .u64 box 5 = some V) :
    ∃ M', p15_1 C prog.meth (some (hd, 0)) b.1 b.2.1 b.2.2 (k : Int) box (xs.length : Int) (at_ : Int) M = some (.bool true, M') ∧ Wrote M0 M' hs (N + 1) (S + 1) a b := by
  have hkl := (List.getElem?_eq_some_iff.1 hk).1
  have hxS := hsz xs (List.mem_of_getElem? hx)
  have hl := h.lens
  have hE := p15_1_eq C prog.meth (some (hd, 0)) b.1 b.2.1 b.2.2 (k : Int) box (xs.length : Int) (at_ : Int) M
  obtain ⟨g, x, hg, hgx, hB⟩ := h.grp hr hkl hx
  subst hB
  have hbkl : k < bk.length := (List.getElem?_eq_some_iff.1 hx).1
  by_cases hlt : at_ < x.B.length
  · have hask : askE x.B.length (at_ : Int) 1 = 0 := by
      unfold askE
      rw [if_neg (by omega), if_neg (by omega), if_neg (by omega), if_neg (by omega)]
    rcases h.H.store hk hg hgx (at_ : Int) 1 V with ⟨e, _⟩ | ⟨_, M1, role1, cur', gs', g', x', c1, H1, ow, hx', hc', fr⟩
    · exact absurd hask e
    obtain ⟨q1, q2⟩ := hr.own hg hgx h.H.inb ow
    have h1 := h.fre fr H1 (ow.all h.all)
    have q3 := q1.set (y := ⟨x'.s, x'.p, x'.o, storeB x.B (at_ : Int) 1 V⟩) hc' q2 hbkl (List.getElem?_eq_some_iff.1 hx').1
    obtain ⟨p, v, xs2, hp, hv, hx2, hld, hvl⟩ := h1.look hkl
    rw [hx] at hx2; cases hx2
    obtain ⟨o, M2, s1, s2, h2, n2⟩ := h1.poke (y := IntKind.wrap .u8 V) hv hx (i := at_) (by omega)
    have b1 : M1.ldI .u64 box 5 = some V := by
      unfold Mem.ldI Mem.ld Mem.cells at hbv ⊢
      rw [fr.get box hbl hbr]; exact hbv
    have d1 : ((at_ : Int) < (x.B.length : Int)) := by omega
    have k0 : (0 : Int) ≤ (k : Int) := by omega
    have k2 : Nat.blt k b.2.1 = true := Mem.blt_iff.2 (by omega)
    have a0 : (0 : Int) ≤ (at_ : Int) := by omega
    have a2 : Nat.blt at_ v.2.1 = true := Mem.blt_iff.2 (by omega)
    simp only [Option.bind_some, List.getElem?_cons_zero, List.getElem?_cons_succ, int?_int, AVal.bool?, AVal.ptr?, AVal.sl?, AVal.tup?, AVal.agg?, AVal.ifc?, AVal.fn?, AVal.str?, List.head?_cons, List.tail_cons, List.isEmpty_nil, cond_true, cond_false, Option.isNone_some, Option.isNone_none, Bool.not_true, Bool.not_false, decide_true, decide_false, beq_self_eq_true, bne_self_eq_false, Int.reduceBEq, Int.reduceBNe, Int.cast_ofNat_Int, hbv, c1, d1, k0, Int.toNat_natCast, k2, hp, Nat.mul_one, hld, b1, a0, a2, s1, Nat.zero_add, s2] at hE
    refine ⟨M2, hE, role1, r2, cur', _, vs, _, h2.mono (Nat.le_succ N), ?_, sz_set hsz (by rw [List.length_set]; omega)⟩
    rw [← storeB_one hlt]; exact q3
  · have hask : askE x.B.length (at_ : Int) 1 = 20 := by
      unfold askE
      rw [if_neg (by omega), if_neg (by omega), if_neg (by omega), if_pos (by omega)]
    rcases h.H.store hk hg hgx (at_ : Int) 1 V with ⟨_, c1⟩ | ⟨e, _⟩
    · rw [hask] at c1
      have d1 : ¬ ((at_ : Int) < (x.B.length : Int)) := by omega
      simp only [Option.bind_some, List.getElem?_cons_zero, List.getElem?_cons_succ, int?_int, AVal.bool?, AVal.ptr?, AVal.sl?, AVal.tup?, AVal.agg?, AVal.ifc?, AVal.fn?, AVal.str?, List.head?_cons, List.tail_cons, List.isEmpty_nil, cond_true, cond_false, Option.isNone_some, Option.isNone_none, Bool.not_true, Bool.not_false, decide_true, decide_false, beq_self_eq_true, bne_self_eq_false, Int.reduceBEq, Int.reduceBNe, Int.cast_ofNat_Int, hbv, c1, d1] at hE
      exact ⟨M, hE, role, r2, cur, gs, vs, bk, h.mono (Nat.le_succ N), hr, fun xs hx => by have := hsz xs hx; omega⟩
    · rw [hask] at e; cases e
theorem written1 {hbc : List AVal} {box at_ : Nat} {V : Int} (h : AP M0 M role r2 hs cur gs N a b vs bk) (hr : Rel cur gs bk) (hk : hs[k]? = some hd) (hx : bk[k]? = some xs) (hsz : ∀ xs ∈ bk, xs.length ≤ S) (hS : S ≤ 1000) (hat : at_ ≤ xs.length) (hbl : box < M.n) (hbr : role box = .other) (hbv : M.get box = some ⟨hbc, .fixed⟩) (hb5 : hbc[5]? = some (.int .u64 V)) :
    ∃ M', p15_2 C prog.meth (some (hd, 0)) b.1 b.2.1 b.2.2 (k : Int) box (xs.length : Int) (at_ : Int) M = some (.bool true, M') ∧ Wrote M0 M' hs (N + 1) (S + 1) a b := by
  have hkl := (List.getElem?_eq_some_iff.1 hk).1
  have hbkl : k < bk.length := (List.getElem?_eq_some_iff.1 hx).1
  have hxS := hsz xs (List.mem_of_getElem? hx)
  have hl := h.lens
  have hE := p15_2_eq C prog.meth (some (hd, 0)) b.1 b.2.1 b.2.2 (k : Int) box (xs.length : Int) (at_ : Int) M
  obtain ⟨M1, role1, cur', gs', g', x', c1, h1, q1, q2, hc', hx', hB, fr⟩ := h.owned hr hk hx
  subst hB
  simp only [Option.bind_some, List.getElem?_cons_zero, List.getElem?_cons_succ, int?_int, AVal.bool?, AVal.ptr?, AVal.sl?, AVal.tup?, AVal.agg?, AVal.ifc?, AVal.fn?, AVal.str?, List.head?_cons, List.tail_cons, List.isEmpty_nil, cond_true, cond_false, Option.isNone_some, Option.isNone_none, Bool.not_true, Bool.not_false, decide_true, decide_false, beq_self_eq_true, bne_self_eq_false, Int.reduceBEq, Int.reduceBNe, Int.cast_ofNat_Int, c1] at hE
  have hE5 := p15_5_eq C prog.meth b.1 b.2.1 b.2.2 (k : Int) box (x'.B.length : Int) (at_ : Int) (some (x'.p, 0)) M1
  obtain ⟨_, ⟨pa, pt, mv, hp, hmv⟩, _, _, ro, _⟩ := h1.H.grp g' x' hx'
  have hne : ((x'.B.length : Int) != (x'.B.length : Int)) = false := bne_self_eq_false _
  have gb1 := (fr.get box hbl hbr).trans hbv
  have b1 : M1.ldI .u64 box 5 = some V := ldI_ld.2 (by rw [ld_fix gb1]; exact hb5)
  by_cases hlt : at_ < x'.B.length
  · obtain ⟨i, M2, c2, s2, hp2, bb⟩ := PPoke (y := IntKind.wrap .u8 V) hp hlt
    obtain ⟨role2, H2, fr2⟩ := h1.H.write hx' hp2 (bb.mono (fun o ho => by simp [ho])) (.inl rfl) hmv (Nat.le_refl _)
    have h2 := h1.fre fr2 H2 h1.all
    have q3 := q1.set (y := ⟨x'.s, x'.p, x'.o, x'.B.set at_ (IntKind.wrap .u8 V)⟩) hc' q2 hbkl (List.getElem?_eq_some_iff.1 hx').1
    obtain ⟨p, v, xs2, hpp, hv, hx2, hld, hvl⟩ := h2.look hkl
    rw [hx] at hx2; cases hx2
    obtain ⟨o, M3, s3, s4, h3, n3⟩ := h2.poke (y := IntKind.wrap .u8 V) hv hx (i := at_) (by omega)
    have gb2 := (fr2.get box (Mem.get_lt gb1) ((fr.rl box hbl).trans hbr)).trans gb1
    have b2 : M2.ldI .u64 box 5 = some V := ldI_ld.2 (by rw [ld_fix gb2]; exact hb5)
    have d1 : ((at_ : Int) < (x'.B.length : Int)) := by omega
    have k0 : (0 : Int) ≤ (k : Int) := by omega
    have k2 : Nat.blt k b.2.1 = true := Mem.blt_iff.2 (by omega)
    have a0 : (0 : Int) ≤ (at_ : Int) := by omega
    have a1 : Nat.blt at_ x'.B.length = true := Mem.blt_iff.2 hlt
    have a2 : Nat.blt at_ v.2.1 = true := Mem.blt_iff.2 (by omega)
    have hsp : slPtr (some (x'.o, i)) (.known x'.B.length) = some (x'.o, i) := rfl
    simp only [Option.bind_some, List.getElem?_cons_zero, List.getElem?_cons_succ, int?_int, AVal.bool?, AVal.ptr?, AVal.sl?, AVal.tup?, AVal.agg?, AVal.ifc?, AVal.fn?, AVal.str?, List.head?_cons, List.tail_cons, List.isEmpty_nil, cond_true, cond_false, Option.isNone_some, Option.isNone_none, Bool.not_true, Bool.not_false, decide_true, decide_false, beq_self_eq_true, bne_self_eq_false, Int.reduceBEq, Int.reduceBNe, Int.cast_ofNat_Int, c2, hne, d1, b1, a0, Int.toNat_natCast, a1, hsp, Nat.mul_one, s2, k0, k2, hpp, hld, b2, a2, s3, Nat.zero_add, s4] at hE5
    exact ⟨M3, hE.trans hE5, role2, r2, cur', _, vs, _, h3.mono (Nat.le_succ N), q3, sz_set hsz (by rw [List.length_set]; omega)⟩
  · have d1 : ¬ ((at_ : Int) < (x'.B.length : Int)) := by omega
    obtain ⟨i, c2, _, _⟩ := PData_C hp
    simp only [Option.bind_some, List.getElem?_cons_zero, List.getElem?_cons_succ, int?_int, AVal.bool?, AVal.ptr?, AVal.sl?, AVal.tup?, AVal.agg?, AVal.ifc?, AVal.fn?, AVal.str?, List.head?_cons, List.tail_cons, List.isEmpty_nil, cond_true, cond_false, Option.isNone_some, Option.isNone_none, Bool.not_true, Bool.not_false, decide_true, decide_false, beq_self_eq_true, bne_self_eq_false, Int.reduceBEq, Int.reduceBNe, Int.cast_ofNat_Int, c2, hne, d1] at hE5
    exact ⟨M1, hE.trans hE5, role1, r2, cur', gs', vs, bk, h1.mono (Nat.le_succ N), q1, fun xs hx => by have := hsz xs hx; omega⟩
theorem written2 (h : AP M0 M role r2 hs cur gs N a b vs bk) (hr : Rel cur gs bk) (hk : hs[k]? = some hd) (hx : bk[k]? = some xs) (hsz : ∀ xs ∈ bk, xs.length ≤ S) (hS : S ≤ 1000) (hN : N < 2 ^ 60) :
    ∃ M', p15_3 C prog.meth (some (hd, 0)) b.1 b.2.1 b.2.2 (k : Int) M = some (.bool true, M') ∧ Wrote M0 M' hs (N + 1) (S + 1) a b := by
  have hkl := (List.getElem?_eq_some_iff.1 hk).1
  have hbkl : k < bk.length := (List.getElem?_eq_some_iff.1 hx).1
  have hxS := hsz xs (List.mem_of_getElem? hx)
  have hl := h.lens
  have hE := p15_3_eq C prog.meth (some (hd, 0)) b.1 b.2.1 b.2.2 (k : Int) M
  obtain ⟨M1, role1, cur', gs', g', x', c1, h1, q1, q2, hc', hx', hB, fr⟩ := h.owned hr hk hx
  subst hB
  obtain ⟨_, ⟨pa, pt, mv, hp, hmv⟩, _⟩ := h1.H.grp g' x' hx'
  rcases PHead_C hp 1 (by omega) with ⟨e, _⟩ | ⟨_, M2, o', c2, hp2, n2, bb, fo⟩
  · exfalso; apply e
    unfold mayE
    rw [if_neg (by omega), if_neg (by omega)]
  obtain ⟨role2, H2, fr2⟩ := h1.H.write hx' hp2 bb fo (show mv + 1 ≤ N + 1 by omega) (Nat.le_succ N)
  have h2 := h1.fre fr2 H2 h1.all
  have hhB : headB x'.B 1 = 0 :: x'.B := by unfold headB; rw [if_pos (by omega)]; rfl
  rw [hhB] at h2
  have q3 := q1.set (y := ⟨x'.s, x'.p, o', 0 :: x'.B⟩) hc' q2 hbkl (List.getElem?_eq_some_iff.1 hx').1
  simp only [Option.bind_some, List.getElem?_cons_zero, List.getElem?_cons_succ, int?_int, AVal.bool?, AVal.ptr?, AVal.sl?, AVal.tup?, AVal.agg?, AVal.ifc?, AVal.fn?, AVal.str?, List.head?_cons, List.tail_cons, List.isEmpty_nil, cond_true, cond_false, Option.isNone_some, Option.isNone_none, Bool.not_true, Bool.not_false, decide_true, decide_false, beq_self_eq_true, bne_self_eq_false, Int.reduceBEq, Int.reduceBNe, Int.cast_ofNat_Int, c1, c2] at hE
  have hE6 := p15_6_eq C prog.meth b.1 b.2.1 b.2.2 (k : Int) M2
  obtain ⟨p, v, xs2, hpp, hv, hx2, hld, hvl⟩ := h2.look hkl
  rw [hx] at hx2; cases hx2
  obtain ⟨a2, c2', M3, s1, s2, u3, s4⟩ := (h2.own k v x'.B hv hx).1.front (by omega)
  have hu1 := Mem.Upto.alloc M2 ⟨[.int .u8 0], .fixed⟩
  have hld1 : (M2.alloc ⟨[.int .u8 0], .fixed⟩).ldL p.1 (p.2 + k) = some v := by
    obtain ⟨p', v', _, e1, e2, _, e4, _⟩ := (h2.upto hu1).look hkl
    rw [hpp] at e1; cases e1
    rw [hv] at e2; cases e2
    exact e4
  have h3 := h2.upto u3
  let R' : Nat → Rl := fun y => if y < M2.n then role2 y else .other
  let T' : Nat → R2 := fun y => if y < M2.n then r2 y else .sl k
  have hup := h3.H.up.1
  have hup2 := h2.H.up.1
  -- names for what is new
  have h3' : AP M0 M3 R' T' hs cur' _ (N + 1) a b vs bk := (h2.rerole (role' := R') (r2' := T') (fun y hy => by
      show (if y < M2.n then role2 y else Rl.other) = _
      rw [if_pos hy]) (fun y hy => by
      show (if y < M2.n then r2 y else R2.sl k) = _
      rw [if_pos hy])).upto u3
  obtain ⟨p', M4, t1, t2, t3, t4⟩ := h3'.change (k := k) hbkl s2 (fun o ho => by
    have := s4 o ho
    refine ⟨by omega, this.2, ?_, ?_⟩
    · show (if o < M2.n then role2 o else Rl.other) = _
      rw [if_neg (by omega)]
    · show (if o < M2.n then r2 o else R2.sl k) = _
      rw [if_neg (by omega)])
  rw [hpp] at t1; cases t1
  have k0 : (0 : Int) ≤ (k : Int) := by omega
  have k2 : Nat.blt k b.2.1 = true := Mem.blt_iff.2 (by omega)
  simp only [Option.bind_some, List.getElem?_cons_zero, List.getElem?_cons_succ, int?_int, AVal.bool?, AVal.ptr?, AVal.sl?, AVal.tup?, AVal.agg?, AVal.ifc?, AVal.fn?, AVal.str?, List.head?_cons, List.tail_cons, List.isEmpty_nil, cond_true, cond_false, Option.isNone_some, Option.isNone_none, Bool.not_true, Bool.not_false, decide_true, decide_false, beq_self_eq_true, bne_self_eq_false, Int.reduceBEq, Int.reduceBNe, Int.cast_ofNat_Int, k0, Int.toNat_natCast, k2, hpp, Nat.mul_one, hld1, s1, t2] at hE6
  exact ⟨M4, hE.trans hE6, R', T', cur', _, _, _, t3, q3, sz_set hsz (by simp; omega)⟩
theorem written3 (h : AP M0 M role r2 hs cur gs N a b vs bk) (hr : Rel cur gs bk) (hk : hs[k]? = some hd) (hx : bk[k]? = some xs) (hsz : ∀ xs ∈ bk, xs.length ≤ S) (hS : S ≤ 1000) (hN : N < 2 ^ 60) :
    ∃ M1 x, C 22 [.ptr (some (hd, 0))] M = some (.tup [.ptr (some x), .int .i64 0], M1) ∧ ∃ M', p15_4 C prog.meth b.1 b.2.1 b.2.2 (k : Int) (xs.length : Int) (some x) M1 = some (.bool true, M') ∧ Wrote M0 M' hs (N + 1) (S + 1) a b := by
  have hkl := (List.getElem?_eq_some_iff.1 hk).1
  have hbkl : k < bk.length := (List.getElem?_eq_some_iff.1 hx).1
  have hxS := hsz xs (List.mem_of_getElem? hx)
  have hl := h.lens
  obtain ⟨M1, role1, cur', gs', g', x', c1, h1, q1, q2, hc', hx', hB, fr⟩ := h.owned hr hk hx
  subst hB
  refine ⟨M1, (x'.p, 0), c1, ?_⟩
  have hE := p15_4_eq C prog.meth b.1 b.2.1 b.2.2 (k : Int) (x'.B.length : Int) (some (x'.p, 0)) M1
  by_cases h0 : 0 < x'.B.length
  · have d0 : ((x'.B.length : Int) > 0) := by omega
    have hw : IntKind.wrap .i64 ((x'.B.length : Int) - 1) = ((x'.B.length - 1 : Nat) : Int) := by rw [wrap_i64 (by omega) (by omega)]; omega
    obtain ⟨p, v, xs2, hpp, hv, hx2, hld, hvl⟩ := h1.look hkl
    rw [hx] at hx2; cases hx2
    obtain ⟨o1, o2⟩ := h1.own k v x'.B hv hx
    obtain ⟨s1, s2, s3⟩ := o1.cut (n := x'.B.length - 1) (kk := .i64) (by omega) (by omega)
    obtain ⟨p', M2, t1, t2, t3, t4⟩ := h1.change (k := k) hbkl s2 (fun o ho => o2 o (s3 o ho))
    rw [hpp] at t1; cases t1
    obtain ⟨_, ⟨pa, pt, mv, hp, hmv⟩, _⟩ := t3.H.grp g' x' hx'
    rcases PTail_C hp (-1) (by omega) with ⟨e, _⟩ | ⟨_, M3, o', c2, hp2, n2, bb, fo⟩
    · exfalso; apply e
      unfold mayE
      rw [if_neg (by omega), if_neg (by omega)]
    obtain ⟨role2, H2, fr2⟩ := t3.H.write hx' hp2 bb fo (show mv + 1 ≤ N + 1 by omega) (Nat.le_succ N)
    have h2 := t3.fre fr2 H2 t3.all
    have htB : tailB x'.B (-1) = x'.B.take (x'.B.length - 1) := by unfold tailB; rw [if_neg (by omega)]; rfl
    rw [htB] at h2
    have q3 := q1.set (y := ⟨x'.s, x'.p, o', x'.B.take (x'.B.length - 1)⟩) hc' q2 hbkl (List.getElem?_eq_some_iff.1 hx').1
    have k0 : (0 : Int) ≤ (k : Int) := by omega
    have k2 : Nat.blt k b.2.1 = true := Mem.blt_iff.2 (by omega)
    simp only [Option.bind_some, List.getElem?_cons_zero, List.getElem?_cons_succ, int?_int, AVal.bool?, AVal.ptr?, AVal.sl?, AVal.tup?, AVal.agg?, AVal.ifc?, AVal.fn?, AVal.str?, List.head?_cons, List.tail_cons, List.isEmpty_nil, cond_true, cond_false, Option.isNone_some, Option.isNone_none, Bool.not_true, Bool.not_false, decide_true, decide_false, beq_self_eq_true, bne_self_eq_false, Int.reduceBEq, Int.reduceBNe, Int.cast_ofNat_Int, d0, hw, k0, Int.toNat_natCast, k2, hpp, Nat.mul_one, hld, s1, t2, c2] at hE
    exact ⟨M3, hE, role2, r2, cur', _, _, _, h2, q3, sz_set hsz (by simp; omega)⟩
  · have d0 : ¬ ((x'.B.length : Int) > 0) := by omega
    obtain ⟨_, ⟨pa, pt, mv, hp, hmv⟩, _⟩ := h1.H.grp g' x' hx'
    have hm : mayE x'.B.length (-1) = 6 := by
      unfold mayE
      rw [if_neg (by omega), if_pos (by omega)]
    rcases PTail_C hp (-1) (by omega) with ⟨_, c2⟩ | ⟨e, _⟩
    · rw [hm] at c2
      simp only [Option.bind_some, List.getElem?_cons_zero, List.getElem?_cons_succ, int?_int, AVal.bool?, AVal.ptr?, AVal.sl?, AVal.tup?, AVal.agg?, AVal.ifc?, AVal.fn?, AVal.str?, List.head?_cons, List.tail_cons, List.isEmpty_nil, cond_true, cond_false, Option.isNone_some, Option.isNone_none, Bool.not_true, Bool.not_false, decide_true, decide_false, beq_self_eq_true, bne_self_eq_false, Int.reduceBEq, Int.reduceBNe, Int.cast_ofNat_Int, d0, c2] at hE
      exact ⟨M1, hE, role1, r2, cur', gs', vs, bk, h1.mono (Nat.le_succ N), q1, fun xs hx => by have := hsz xs hx; omega⟩
    · rw [hm] at e; cases e
end
end Go.Proofs.Ytfdlmneofbcpnaa.M
