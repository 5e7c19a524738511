/- The package share: Own and what is written. -/
import Derived.Test.YtfdlmneofbcpnaaSH
set_option linter.unusedVariables false
set_option linter.unusedSimpArgs false
set_option linter.unnecessarySimpa false
set_option maxRecDepth 100000
namespace Go.Proofs.Ytfdlmneofbcpnaa.M
open Go.Abs

/-- Objects that are no handle's are as they were. -/
structure Fr (role role' : Nat → Rl) (M M' : Mem) : Prop where
  n : M.n ≤ M'.n
  get : ∀ y, y < M.n → role y = .other → M'.get y = M.get y
  rl : ∀ y, y < M.n → role' y = role y
theorem Fr.refl (role : Nat → Rl) (M : Mem) : Fr role role M M := ⟨Nat.le_refl _, fun _ _ _ => rfl, fun _ _ => rfl⟩
theorem Fr.trans {r r' r'' : Nat → Rl} {M M' M'' : Mem} (h : Fr r r' M M') (h' : Fr r' r'' M' M'') : Fr r r'' M M'' :=
  ⟨Nat.le_trans h.n h'.n, fun y hy ho => by
    have := h.n
    rw [h'.get y (by omega) ((h.rl y hy).trans ho), h.get y hy ho], fun y hy => by
    have := h.n
    rw [h'.rl y (by omega), h.rl y hy]⟩
theorem Fr.upto {r : Nat → Rl} {M M' : Mem} (h : M.Upto M') : Fr r r M M' := ⟨h.1, fun y hy _ => h.2 y hy, fun _ _ => rfl⟩
section
variable {M0 M M' : Mem} {role : Nat → Rl} {hs : List Nat} {cur : List (Option Nat)} {gs : List Grp} {N i h g : Nat} {x : Grp}
theorem SS.rerole {role' : Nat → Rl} (H : SS M0 M role hs cur gs N) (hr : ∀ y, y < M.n → role' y = role y) : SS M0 M role' hs cur gs N := by
  refine ⟨H.up, H.len, fun i h c h1 h2 => ?_, fun g x h1 => ?_, H.inb, H.few⟩
  · obtain ⟨a, b, c⟩ := H.hand i h c h1 h2
    exact ⟨a, (hr _ (Mem.get_lt a)).trans b, c⟩
  · obtain ⟨a, ⟨a1, t, mv, b, b2⟩, c1, c2, c3, c⟩ := H.grp g x h1
    exact ⟨a, ⟨a1, t, mv, b, b2⟩, (hr _ (Mem.get_lt a)).trans c1, (hr _ b.lt.1).trans c2, (hr _ b.lt.2).trans c3, c⟩
/-- What Own makes of the handles. -/
def Owned (cur : List (Option Nat)) (gs : List Grp) (i g : Nat) (x : Grp) (cur' : List (Option Nat)) (gs' : List Grp) (g' : Nat) (x' : Grp) : Prop :=
  (1 < cur.count (some g) ∧ cur' = cur.set i (some gs.length) ∧ gs' = gs ++ [x'] ∧ g' = gs.length ∧ x'.B = x.B) ∨ (¬ 1 < cur.count (some g) ∧ cur' = cur ∧ gs' = gs ∧ g' = g ∧ x' = x)
theorem SS.own (H : SS M0 M role hs cur gs N) (hi : hs[i]? = some h) (hc : cur[i]? = some (some g)) (hx : gs[g]? = some x) : ∃ M' role' cur' gs' g' x', C 22 [.ptr (some (h, 0))] M = some (.tup [.ptr (some (x'.p, 0)), .int .i64 0], M') ∧ SS M0 M' role' hs cur' gs' N ∧ Owned cur gs i g x cur' gs' g' x' ∧ cur'[i]? = some (some g') ∧ gs'[g']? = some x' ∧ x'.B = x.B ∧ Fr role role' M M' := by
  by_cases h1 : 1 < cur.count (some g)
  · obtain ⟨M', y, x', role', c1, hy, hb, H', n1, n2, n3, hr, bb⟩ := H.own_part hi hc h1
    rw [hx] at hy; cases hy
    have hil : i < cur.length := (List.getElem?_eq_some_iff.1 hc).1
    obtain ⟨gs1, _, rs, _⟩ := H.grp g x hx
    obtain ⟨gh, rh, _⟩ := H.hand i h _ hi hc
    refine ⟨M', role', _, _, gs.length, x', c1, H', .inl ⟨h1, rfl, rfl, rfl, hb⟩, by rw [List.getElem?_set, if_pos rfl, if_pos hil], by simp, hb, bb.1, fun z hz ho => bb.2 z hz ?_, hr⟩
    rintro (rfl | rfl)
    · rw [rh] at ho; cases ho
    · rw [rs] at ho; cases ho
  · obtain ⟨y, hy, c1⟩ := H.own_sole hi hc h1
    rw [hx] at hy; cases hy
    exact ⟨M, role, cur, gs, g, x, c1, H, .inr ⟨h1, rfl, rfl, rfl, rfl⟩, hc, hx, rfl, Fr.refl _ _⟩
/-- A packet is written. -/
theorem SS.write {o' : Nat} {B' : List Int} {a t mv N' : Nat} (H : SS M0 M role hs cur gs N) (hx : gs[g]? = some x) (hp : IsP M' x.p o' B' a t mv) (hb : Mem.But (· ∈ [x.p, x.o]) M M') (ho : o' = x.o ∨ M.n ≤ o') (hN : mv ≤ N') (hNN : N ≤ N') :
    ∃ role', SS M0 M' role' hs cur (gs.set g ⟨x.s, x.p, o', B'⟩) N' ∧ Fr role role' M M' := by
  obtain ⟨gs1, ⟨a0, t0, mv0, hp0, hmv⟩, rs, rp, ro, n1, n2, n3⟩ := H.grp g x hx
  have hgl : g < gs.length := (List.getElem?_eq_some_iff.1 hx).1
  have hup := H.up.1
  have hl := hp0.lt
  have hne := hp.ne
  let R' : Nat → Rl := fun y => if y = o' then .mm g else role y
  have rl : ∀ y, y < M.n → R' y = role y := fun y hy => by
    show (if y = o' then Rl.mm g else role y) = role y
    rcases ho with rfl | ho
    · by_cases e : y = x.o
      · rw [if_pos e, e, ro]
      · rw [if_neg e]
    · rw [if_neg (by omega)]
  have keep : ∀ y, y < M.n → role y ≠ .pk g → role y ≠ .mm g → M'.get y = M.get y := fun y hy h1 h2 => hb.2 y hy (fun hm => by
    simp only [List.mem_cons, List.not_mem_nil, or_false] at hm
    rcases hm with rfl | rfl
    · exact h1 rp
    · exact h2 ro)
  have pto : ∀ c, ptrOf (gs.set g ⟨x.s, x.p, o', B'⟩) c = ptrOf gs c := fun c => by
    cases c with
    | none => rfl
    | some g2 =>
      show ((gs.set g ⟨x.s, x.p, o', B'⟩)[g2]?).map (fun x => (x.s, 0)) = (gs[g2]?).map (fun x => (x.s, 0))
      by_cases e : g = g2
      · subst e
        rw [List.getElem?_set, if_pos rfl, if_pos hgl, hx]; rfl
      · rw [List.getElem?_set, if_neg e]
  refine ⟨R', ⟨⟨by have := hb.1; omega, fun y hy => by rw [hb.2 y (by omega) (by simp; omega), H.up.2 y hy]⟩, H.len, fun j h' c h1 h2 => ?_, fun g' x' h1 => ?_, fun j g' hj => by rw [List.length_set]; exact H.inb j g' hj, H.few⟩, hb.1, fun y hy hoth => keep y hy (by rw [hoth]; exact nofun) (by rw [hoth]; exact nofun), rl⟩
  · obtain ⟨q, r, n⟩ := H.hand j h' c h1 h2
    have hlt := Mem.get_lt q
    exact ⟨by rw [keep _ hlt (by rw [r]; exact nofun) (by rw [r]; exact nofun), pto]; exact q, (rl _ hlt).trans r, n⟩
  · rw [List.getElem?_set] at h1
    by_cases e : g = g'
    · subst e
      rw [if_pos rfl, if_pos hgl] at h1
      cases h1
      have hlt := Mem.get_lt gs1
      refine ⟨by rw [keep _ hlt (by rw [rs]; exact nofun) (by rw [rs]; exact nofun)]; exact gs1, ⟨a, t, mv, hp, hN⟩, (rl _ hlt).trans rs, (rl _ hl.1).trans rp, ?_, n1, n2, ?_⟩
      · show (if o' = o' then Rl.mm g else _) = _
        rw [if_pos rfl]
      · show M0.n ≤ o'
        rcases ho with rfl | ho <;> omega
    · rw [if_neg e] at h1
      obtain ⟨q, ⟨a1, t1, m1, hp1, hm1⟩, r1, r2, r3, r⟩ := H.grp g' x' h1
      have hlt := Mem.get_lt q
      have k : ∀ y, y < M.n → role y = .pk g' ∨ role y = .mm g' ∨ role y = .sh g' → M'.get y = M.get y := fun y hy hr => keep y hy (by rcases hr with hr | hr | hr <;> rw [hr] <;> intro e2 <;> cases e2 <;> exact e rfl) (by rcases hr with hr | hr | hr <;> rw [hr] <;> intro e2 <;> cases e2 <;> exact e rfl)
      exact ⟨(k _ hlt (.inr (.inr r1))).trans q, ⟨a1, t1, m1, hp1.same (k _ hp1.lt.1 (.inl r2)) (k _ hp1.lt.2 (.inr (.inl r3))), by omega⟩, (rl _ hlt).trans r1, (rl _ hp1.lt.1).trans r2, (rl _ hp1.lt.2).trans r3, r⟩
/-- Load. -/
theorem SS.load (H : SS M0 M role hs cur gs N) (hi : hs[i]? = some h) (hc : cur[i]? = some (some g)) (hx : gs[g]? = some x) (at_ size : Int) : ∃ v, C 23 [.ptr (some (h, 0)), .int .i64 at_, .int .i64 size] M = some (.tup [.int .u64 v, .int .i64 (askE x.B.length at_ size)], M) := by
  have hE := p23_0_eq C prog.meth (some (h, 0)) at_ size M
  obtain ⟨y, hy, t, l1, l2, l3⟩ := H.rd hi hc
  rw [hx] at hy; cases hy
  obtain ⟨_, ⟨a, tt, mv, hp, _⟩, _⟩ := H.grp g x hx
  rcases PLoad_C hp at_ size with ⟨e, c1⟩ | ⟨e, c1⟩
  · simp only [Option.bind_some, List.getElem?_cons_zero, List.getElem?_cons_succ, int?_int, AVal.bool?, AVal.ptr?, AVal.sl?, AVal.tup?, AVal.agg?, AVal.ifc?, AVal.fn?, AVal.str?, List.head?_cons, List.tail_cons, List.isEmpty_nil, cond_true, cond_false, Option.isNone_some, Option.isNone_none, Bool.not_true, Bool.not_false, decide_true, decide_false, beq_self_eq_true, bne_self_eq_false, Int.reduceBEq, Int.reduceBNe, Int.cast_ofNat_Int, t, Nat.zero_add, l1, l2, c1] at hE
    exact ⟨_, c23 hE⟩
  · simp only [Option.bind_some, List.getElem?_cons_zero, List.getElem?_cons_succ, int?_int, AVal.bool?, AVal.ptr?, AVal.sl?, AVal.tup?, AVal.agg?, AVal.ifc?, AVal.fn?, AVal.str?, List.head?_cons, List.tail_cons, List.isEmpty_nil, cond_true, cond_false, Option.isNone_some, Option.isNone_none, Bool.not_true, Bool.not_false, decide_true, decide_false, beq_self_eq_true, bne_self_eq_false, Int.reduceBEq, Int.reduceBNe, Int.cast_ofNat_Int, t, Nat.zero_add, l1, l2, c1] at hE
    rw [e]
    exact ⟨_, c23 hE⟩
/-- Store. -/
theorem SS.store (H : SS M0 M role hs cur gs N) (hi : hs[i]? = some h) (hc : cur[i]? = some (some g)) (hx : gs[g]? = some x) (at_ size v : Int) :
    (askE x.B.length at_ size ≠ 0 ∧ C 12 [.ptr (some (h, 0)), .int .i64 at_, .int .i64 size, .int .u64 v] M = some (.int .i64 (askE x.B.length at_ size), M)) ∨
    (askE x.B.length at_ size = 0 ∧ ∃ M' role' cur' gs' g' x', C 12 [.ptr (some (h, 0)), .int .i64 at_, .int .i64 size, .int .u64 v] M = some (.int .i64 0, M') ∧ SS M0 M' role' hs cur' (gs'.set g' ⟨x'.s, x'.p, x'.o, storeB x.B at_ size v⟩) N ∧ Owned cur gs i g x cur' gs' g' x' ∧ gs'[g']? = some x' ∧ cur'[i]? = some (some g') ∧ Fr role role' M M') := by
  have hE := p12_0_eq C prog.meth (some (h, 0)) at_ size v M
  obtain ⟨w, c1⟩ := H.load hi hc hx at_ size
  simp only [Option.bind_some, List.getElem?_cons_zero, List.getElem?_cons_succ, int?_int, AVal.bool?, AVal.ptr?, AVal.sl?, AVal.tup?, AVal.agg?, AVal.ifc?, AVal.fn?, AVal.str?, List.head?_cons, List.tail_cons, List.isEmpty_nil, cond_true, cond_false, Option.isNone_some, Option.isNone_none, Bool.not_true, Bool.not_false, decide_true, decide_false, beq_self_eq_true, bne_self_eq_false, Int.reduceBEq, Int.reduceBNe, Int.cast_ofNat_Int, c1] at hE
  by_cases he : askE x.B.length at_ size = 0
  · right
    refine ⟨he, ?_⟩
    have : (askE x.B.length at_ size != 0) = false := by simp [he]
    rw [this, cond_false] at hE
    obtain ⟨M1, role1, cur', gs', g', x', c2, H1, ow, hc', hx', hB, fr⟩ := H.own hi hc hx
    obtain ⟨_, ⟨a, tt, mv, hp, hmv⟩, _⟩ := H1.grp g' x' hx'
    rcases PStore_C hp at_ size v with ⟨e, _⟩ | ⟨_, M2, c3, q, n2, b2⟩
    · rw [hB] at e; exact absurd he e
    · simp only [Option.bind_some, List.getElem?_cons_zero, List.getElem?_cons_succ, int?_int, AVal.bool?, AVal.ptr?, AVal.sl?, AVal.tup?, AVal.agg?, AVal.ifc?, AVal.fn?, AVal.str?, List.head?_cons, List.tail_cons, List.isEmpty_nil, cond_true, cond_false, Option.isNone_some, Option.isNone_none, Bool.not_true, Bool.not_false, decide_true, decide_false, beq_self_eq_true, bne_self_eq_false, Int.reduceBEq, Int.reduceBNe, Int.cast_ofNat_Int, c2, c3] at hE
      obtain ⟨role2, H2, fr2⟩ := H1.write hx' q (b2.mono (fun o ho => by simp [ho])) (.inl rfl) hmv (Nat.le_refl _)
      rw [hB] at H2
      exact ⟨M2, role2, cur', gs', g', x', c12 hE, H2, ow, hx', hc', fr.trans fr2⟩
  · left
    have : (askE x.B.length at_ size != 0) = true := by simp [he]
    rw [this, cond_true] at hE
    exact ⟨he, c12 hE⟩
theorem SS.store0 (H : SS M0 M role hs cur gs N) (hi : hs[i]? = some h) (hc : cur[i]? = some none) (at_ size v : Int) : C 12 [.ptr (some (h, 0)), .int .i64 at_, .int .i64 size, .int .u64 v] M = some (.int .i64 40, M) := by
  have hL := p23_0_eq C prog.meth (some (h, 0)) at_ size M
  simp only [Option.bind_some, List.getElem?_cons_zero, List.getElem?_cons_succ, int?_int, AVal.bool?, AVal.ptr?, AVal.sl?, AVal.tup?, AVal.agg?, AVal.ifc?, AVal.fn?, AVal.str?, List.head?_cons, List.tail_cons, List.isEmpty_nil, cond_true, cond_false, Option.isNone_some, Option.isNone_none, Bool.not_true, Bool.not_false, decide_true, decide_false, beq_self_eq_true, bne_self_eq_false, Int.reduceBEq, Int.reduceBNe, Int.cast_ofNat_Int, H.there0 hi hc] at hL
  have hE := p12_0_eq C prog.meth (some (h, 0)) at_ size v M
  simp only [Option.bind_some, List.getElem?_cons_zero, List.getElem?_cons_succ, int?_int, AVal.bool?, AVal.ptr?, AVal.sl?, AVal.tup?, AVal.agg?, AVal.ifc?, AVal.fn?, AVal.str?, List.head?_cons, List.tail_cons, List.isEmpty_nil, cond_true, cond_false, Option.isNone_some, Option.isNone_none, Bool.not_true, Bool.not_false, decide_true, decide_false, beq_self_eq_true, bne_self_eq_false, Int.reduceBEq, Int.reduceBNe, Int.cast_ofNat_Int, c23 hL] at hE
  exact c12 hE
/-- New. -/
theorem SNew_C {ba : Option (Nat × Nat)} {bl : Nat} {bc : Cap} {xs : List Int} (hx : M.ints .u8 ba bl bc = some xs) (h1 : bl ≤ 2048) (hu : M0.Upto M) :
    ∃ M' h x role', C 8 [.sl ba bl bc] M = some (.tup [.ptr (some (h, 0)), .int .i64 0], M') ∧ M.Upto M' ∧ SS M0 M' role' [h] [some 0] [x] 0 ∧ x.B = xs ∧ (∀ y, y < M.n → role' y = .other) := by
  have hE := p8_0_eq C prog.meth ba bl bc M
  obtain ⟨M1, s, c1, u1, k1, q1, hs⟩ := smade_C hx h1
  have u2 := Mem.Upto.alloc M1 ⟨[.bool true, .ptr (some (s, 0))], .fixed⟩
  have k2 := get_alloc_self M1 ⟨[.bool true, .ptr (some (s, 0))], .fixed⟩
  simp only [Option.bind_some, List.getElem?_cons_zero, List.getElem?_cons_succ, int?_int, AVal.bool?, AVal.ptr?, AVal.sl?, AVal.tup?, AVal.agg?, AVal.ifc?, AVal.fn?, AVal.str?, List.head?_cons, List.tail_cons, List.isEmpty_nil, cond_true, cond_false, Option.isNone_some, Option.isNone_none, Bool.not_true, Bool.not_false, decide_true, decide_false, beq_self_eq_true, bne_self_eq_false, Int.reduceBEq, Int.reduceBNe, Int.cast_ofNat_Int, c1] at hE
  generalize M1.alloc ⟨[.bool true, .ptr (some (s, 0))], .fixed⟩ = M2 at hE u2 k2
  have hsl := Mem.get_lt k1
  have hun := hu.1
  let R' : Nat → Rl := fun y => if y = M1.n then .hand 0 else if y = s then .sh 0 else if y = M.n then .pk 0 else if y = M.n + 1 then .mm 0 else .other
  refine ⟨M2, M1.n, ⟨s, M.n, M.n + 1, xs⟩, R', c8 hE, u1.trans u2, ⟨hu.trans (u1.trans u2), rfl, fun j h' c hj hcj => ?_, fun g' x' hg' => ?_, fun j g' hj => ?_, by simp⟩, rfl, fun y hy => ?_⟩
  · cases j with
    | succ j => simp at hj
    | zero =>
      cases hj; cases hcj
      refine ⟨by simpa [ptrOf] using k2, ?_, by omega⟩
      show (if M1.n = M1.n then Rl.hand 0 else _) = _
      rw [if_pos rfl]
  · cases g' with
    | succ j => simp at hg'
    | zero =>
      cases hg'
      refine ⟨by simpa using u2.get k1, ⟨_, _, _, q1.upto u2, Nat.le_refl _⟩, ?_, ?_, ?_, by show M0.n ≤ s; omega, by show M0.n ≤ M.n; omega, by show M0.n ≤ M.n + 1; omega⟩
      · show (if s = M1.n then Rl.hand 0 else if s = s then .sh 0 else _) = _
        rw [if_neg (by omega), if_pos rfl]
      · show (if M.n = M1.n then Rl.hand 0 else if M.n = s then .sh 0 else if M.n = M.n then .pk 0 else _) = _
        rw [if_neg (by omega), if_neg (by omega), if_pos rfl]
      · show (if M.n + 1 = M1.n then Rl.hand 0 else if M.n + 1 = s then .sh 0 else if M.n + 1 = M.n then .pk 0 else if M.n + 1 = M.n + 1 then .mm 0 else _) = _
        rw [if_neg (by omega), if_neg (by omega), if_neg (by omega), if_pos rfl]
  · cases j with
    | succ j => simp at hj
    | zero => cases hj; simp
  · show (if y = M1.n then Rl.hand 0 else if y = s then .sh 0 else if y = M.n then .pk 0 else if y = M.n + 1 then .mm 0 else .other) = _
    rw [if_neg (by omega), if_neg (by omega), if_neg (by omega), if_neg (by omega)]
end
end Go.Proofs.Ytfdlmneofbcpnaa.M
