/- The package share: what its functions answer. -/
import Derived.Test.YtfdlmneofbcpnaaKL
set_option linter.unusedVariables false
set_option linter.unusedSimpArgs false
set_option linter.unnecessarySimpa false
set_option maxRecDepth 100000
namespace Go.Proofs.Ytfdlmneofbcpnaa.M
open Go.Abs

/-- What an object is there for. -/
inductive Rl where
  | hand (i : Nat)
  | sh (g : Nat)
  | pk (g : Nat)
  | mm (g : Nat)
  | other
structure Grp where
  s : Nat
  p : Nat
  o : Nat
  B : List Int
def ptrOf (gs : List Grp) : Option Nat → Option (Nat × Nat)
  | none => none
  | some g => (gs[g]?).map fun x => (x.s, 0)
/-- Handles, and the packets that they share. -/
structure SS (M0 M : Mem) (role : Nat → Rl) (hs : List Nat) (cur : List (Option Nat)) (gs : List Grp) (N : Nat) : Prop where
  up : M0.Upto M
  len : hs.length = cur.length
  hand : ∀ (i h : Nat) (c : Option Nat), hs[i]? = some h → cur[i]? = some c → M.get h = some ⟨[.bool true, .ptr (ptrOf gs c)], .fixed⟩ ∧ role h = .hand i ∧ M0.n ≤ h
  grp : ∀ (g : Nat) (x : Grp), gs[g]? = some x → M.get x.s = some ⟨[.ptr (some (x.p, 0)), .int .i64 ((cur.count (some g) : Nat) : Int)], .fixed⟩ ∧ (∃ a t mv, IsP M x.p x.o x.B a t mv ∧ mv ≤ N) ∧ role x.s = .sh g ∧ role x.p = .pk g ∧ role x.o = .mm g ∧ M0.n ≤ x.s ∧ M0.n ≤ x.p ∧ M0.n ≤ x.o
  inb : ∀ (i g : Nat), cur[i]? = some (some g) → g < gs.length
  few : cur.length ≤ 1000
section
variable {M0 M M' : Mem} {role : Nat → Rl} {hs : List Nat} {cur : List (Option Nat)} {gs : List Grp} {N i h g : Nat} {x : Grp}
theorem SS.cnt (H : SS M0 M role hs cur gs N) (g : Nat) : cur.count (some g) ≤ 1000 := Nat.le_trans List.count_le_length H.few
theorem SS.upto (H : SS M0 M role hs cur gs N) (hu : M.Upto M') : SS M0 M' role hs cur gs N := by
  refine ⟨H.up.trans hu, H.len, fun i h c h1 h2 => ?_, fun g x h1 => ?_, H.inb, H.few⟩
  · obtain ⟨a, b⟩ := H.hand i h c h1 h2
    exact ⟨hu.get a, b⟩
  · obtain ⟨a, ⟨a1, t, mv, b, b2⟩, c⟩ := H.grp g x h1
    exact ⟨hu.get a, ⟨a1, t, mv, b.upto hu, b2⟩, c⟩
theorem SS.mono {N' : Nat} (H : SS M0 M role hs cur gs N) (hN : N ≤ N') : SS M0 M role hs cur gs N' :=
  ⟨H.up, H.len, H.hand, fun g x h1 => by
    obtain ⟨a, ⟨a1, t, mv, b, b2⟩, c⟩ := H.grp g x h1
    exact ⟨a, ⟨a1, t, mv, b, by omega⟩, c⟩, H.inb, H.few⟩
/-- A handle that has a packet. -/
theorem SS.at (H : SS M0 M role hs cur gs N) (hi : hs[i]? = some h) (hc : cur[i]? = some (some g)) : ∃ x, gs[g]? = some x ∧ M.get h = some ⟨[.bool true, .ptr (some (x.s, 0))], .fixed⟩ := by
  have hg := H.inb i g hc
  refine ⟨gs[g], List.getElem?_eq_getElem hg, ?_⟩
  have := (H.hand i h _ hi hc).1
  simpa [ptrOf, List.getElem?_eq_getElem hg] using this
theorem there_of {v : Option (Nat × Nat)} (hg : M.get h = some ⟨[.bool true, .ptr v], .fixed⟩) : C 26 [.ptr (some (h, 0))] M = some (.int .i64 (if v.isNone then 40 else 0), M) := by
  have hE := p26_0_eq C prog.meth (some (h, 0)) M
  have e1 : M.ldB h 0 = some true := by unfold Mem.ldB; rw [ld_fix hg]; rfl
  have e2 : M.ldP h 1 = some v := by unfold Mem.ldP; rw [ld_fix hg]; rfl
  simp only [Option.bind_some, List.getElem?_cons_zero, List.getElem?_cons_succ, int?_int, AVal.bool?, AVal.ptr?, AVal.sl?, AVal.tup?, AVal.agg?, AVal.ifc?, AVal.fn?, AVal.str?, List.head?_cons, List.tail_cons, List.isEmpty_nil, cond_true, cond_false, Option.isNone_some, Option.isNone_none, Bool.not_true, Bool.not_false, decide_true, decide_false, beq_self_eq_true, bne_self_eq_false, Int.reduceBEq, Int.reduceBNe, Int.cast_ofNat_Int, Nat.zero_add, e1, e2] at hE
  refine c26 (hE.trans ?_)
  cases v <;> rfl
theorem ldP_of {v : Option (Nat × Nat)} (hg : M.get h = some ⟨[.bool true, .ptr v], .fixed⟩) : M.ldP h 1 = some v := by unfold Mem.ldP; rw [ld_fix hg]; rfl
theorem SS.there0 (H : SS M0 M role hs cur gs N) (hi : hs[i]? = some h) (hc : cur[i]? = some none) : C 26 [.ptr (some (h, 0))] M = some (.int .i64 40, M) := there_of (H.hand i h _ hi hc).1
theorem SS.count0 (H : SS M0 M role hs cur gs N) (hi : hs[i]? = some h) (hc : cur[i]? = some none) : C 13 [.ptr (some (h, 0))] M = some (.int .i64 0, M) := by
  have hE := p13_0_eq C prog.meth (some (h, 0)) M
  simp only [Option.bind_some, List.getElem?_cons_zero, List.getElem?_cons_succ, int?_int, AVal.bool?, AVal.ptr?, AVal.sl?, AVal.tup?, AVal.agg?, AVal.ifc?, AVal.fn?, AVal.str?, List.head?_cons, List.tail_cons, List.isEmpty_nil, cond_true, cond_false, Option.isNone_some, Option.isNone_none, Bool.not_true, Bool.not_false, decide_true, decide_false, beq_self_eq_true, bne_self_eq_false, Int.reduceBEq, Int.reduceBNe, Int.cast_ofNat_Int, H.there0 hi hc] at hE
  exact c13 hE
theorem SS.rd (H : SS M0 M role hs cur gs N) (hi : hs[i]? = some h) (hc : cur[i]? = some (some g)) : ∃ x, gs[g]? = some x ∧ C 26 [.ptr (some (h, 0))] M = some (.int .i64 0, M) ∧ M.ldP h 1 = some (some (x.s, 0)) ∧ M.ldP x.s 0 = some (some (x.p, 0)) ∧ M.ldI .i64 x.s 1 = some ((cur.count (some g) : Nat) : Int) := by
  obtain ⟨x, hx, g1⟩ := H.at hi hc
  have g2 := (H.grp g x hx).1
  exact ⟨x, hx, there_of g1, ldP_of g1, by unfold Mem.ldP; rw [ld_fix g2]; rfl, ldI_ld.2 (by rw [ld_fix g2]; rfl)⟩
theorem SS.count (H : SS M0 M role hs cur gs N) (hi : hs[i]? = some h) (hc : cur[i]? = some (some g)) : C 13 [.ptr (some (h, 0))] M = some (.int .i64 ((cur.count (some g) : Nat) : Int), M) := by
  have hE := p13_0_eq C prog.meth (some (h, 0)) M
  obtain ⟨x, hx, t, l1, l2, l3⟩ := H.rd hi hc
  simp only [Option.bind_some, List.getElem?_cons_zero, List.getElem?_cons_succ, int?_int, AVal.bool?, AVal.ptr?, AVal.sl?, AVal.tup?, AVal.agg?, AVal.ifc?, AVal.fn?, AVal.str?, List.head?_cons, List.tail_cons, List.isEmpty_nil, cond_true, cond_false, Option.isNone_some, Option.isNone_none, Bool.not_true, Bool.not_false, decide_true, decide_false, beq_self_eq_true, bne_self_eq_false, Int.reduceBEq, Int.reduceBNe, Int.cast_ofNat_Int, t, Nat.zero_add, l1, l3] at hE
  exact c13 hE
theorem SS.bytes (H : SS M0 M role hs cur gs N) (hi : hs[i]? = some h) (hc : cur[i]? = some (some g)) : ∃ x M' v, gs[g]? = some x ∧ C 17 [.ptr (some (h, 0))] M = some (.sl v.1 v.2.1 v.2.2, M') ∧ M.Upto M' ∧ Own1 M' v x.B ∧ (∀ o ∈ fpS v, M.n ≤ o) := by
  have hE := p17_0_eq C prog.meth (some (h, 0)) M
  obtain ⟨x, hx, t, l1, l2, l3⟩ := H.rd hi hc
  obtain ⟨_, ⟨a, tt, mv, hp, _⟩, _⟩ := H.grp g x hx
  obtain ⟨M', v, c1, u1, o1, f1⟩ := PBytes_C hp
  simp only [Option.bind_some, List.getElem?_cons_zero, List.getElem?_cons_succ, int?_int, AVal.bool?, AVal.ptr?, AVal.sl?, AVal.tup?, AVal.agg?, AVal.ifc?, AVal.fn?, AVal.str?, List.head?_cons, List.tail_cons, List.isEmpty_nil, cond_true, cond_false, Option.isNone_some, Option.isNone_none, Bool.not_true, Bool.not_false, decide_true, decide_false, beq_self_eq_true, bne_self_eq_false, Int.reduceBEq, Int.reduceBNe, Int.cast_ofNat_Int, t, Nat.zero_add, l1, l2, c1] at hE
  exact ⟨x, M', v, hx, c17 hE, u1, o1, f1⟩
/-- Where one object alone is written. -/
theorem SS.others (H : SS M0 M role hs cur gs N) (i' : Nat) (h' : Nat) (hi : hs[i']? = some h') (g' : Nat) (x' : Grp) (hg : gs[g']? = some x') (hb : Mem.But (fun o => o = h' ∨ o = x'.s) M M') :
    (∀ (i h : Nat) (c : Option Nat), i ≠ i' → hs[i]? = some h → cur[i]? = some c → M'.get h = some ⟨[.bool true, .ptr (ptrOf gs c)], .fixed⟩) ∧
    (∀ (g : Nat) (x : Grp), g ≠ g' → gs[g]? = some x → M'.get x.s = some ⟨[.ptr (some (x.p, 0)), .int .i64 ((cur.count (some g) : Nat) : Int)], .fixed⟩) ∧
    (∀ (g : Nat) (x : Grp), gs[g]? = some x → ∃ a t mv, IsP M' x.p x.o x.B a t mv ∧ mv ≤ N) := by
  obtain ⟨c', hc'⟩ : ∃ c, cur[i']? = some c := by
    have : i' < hs.length := (List.getElem?_eq_some_iff.1 hi).1
    exact ⟨_, List.getElem?_eq_getElem (by rw [← H.len]; exact this)⟩
  have rh := (H.hand i' h' c' hi hc').2.1
  have rs := (H.grp g' x' hg).2.2.1
  refine ⟨fun i h c hne h1 h2 => ?_, fun g x hne h1 => ?_, fun g x h1 => ?_⟩
  · obtain ⟨a, b, _⟩ := H.hand i h c h1 h2
    refine hb.get a ?_
    rintro (rfl | rfl)
    · rw [rh] at b; cases b; exact hne rfl
    · rw [rs] at b; cases b
  · obtain ⟨a, _, b, _⟩ := H.grp g x h1
    refine hb.get a ?_
    intro e
    rcases e with e | e
    · rw [e, rh] at b; cases b
    · rw [e, rs] at b; cases b; exact hne rfl
  · obtain ⟨_, ⟨a, t, mv, hp, hm⟩, _, b1, b2, _⟩ := H.grp g x h1
    have hl := hp.lt
    refine ⟨a, t, mv, hp.same (hb.2 _ hl.1 ?_) (hb.2 _ hl.2 ?_), hm⟩
    · intro e
      rcases e with e | e
      · rw [e, rh] at b1; cases b1
      · rw [e, rs] at b1; cases b1
    · intro e
      rcases e with e | e
      · rw [e, rh] at b2; cases b2
      · rw [e, rs] at b2; cases b2
/-- Free. -/
theorem SS.free (H : SS M0 M role hs cur gs N) (hi : hs[i]? = some h) (hc : cur[i]? = some (some g)) : ∃ M', C 11 [.ptr (some (h, 0))] M = some (.int .i64 0, M') ∧ SS M0 M' role hs (cur.set i none) gs N ∧ M'.n = M.n ∧ (∀ y, y < M.n → role y = .other → M'.get y = M.get y) := by
  have hE := p11_0_eq C prog.meth (some (h, 0)) M
  obtain ⟨x, hx, t, l1, l2, l3⟩ := H.rd hi hc
  obtain ⟨gs1, ⟨a, tt, mv, hp, hmv⟩, rs, rp, ro, n1, n2, n3⟩ := H.grp g x hx
  obtain ⟨gh, rh, n0⟩ := H.hand i h _ hi hc
  have hcnt := H.cnt g
  have hil : i < cur.length := (List.getElem?_eq_some_iff.1 hc).1
  have hgi : cur[i] = some g := (List.getElem?_eq_some_iff.1 hc).2
  have hpos : 0 < cur.count (some g) := List.count_pos_iff.2 (by rw [← hgi]; exact List.getElem_mem hil)
  have hw : IntKind.wrap .i64 (((cur.count (some g) : Nat) : Int) - 1) = ((cur.count (some g) - 1 : Nat) : Int) := by rw [wrap_i64 (by omega) (by omega)]; omega
  have s1 := st_fix (i := 1) (vs := [.int .i64 ((cur.count (some g) - 1 : Nat) : Int)]) gs1 (by simp)
  rw [overL_one] at s1
  have k1 : (M.put x.s ⟨[AVal.ptr (some (x.p, 0)), .int .i64 ((cur.count (some g) : Nat) : Int)].set 1 (.int .i64 ((cur.count (some g) - 1 : Nat) : Int)), .fixed⟩).get x.s = some ⟨[.ptr (some (x.p, 0)), .int .i64 ((cur.count (some g) - 1 : Nat) : Int)], .fixed⟩ := get_put_self (Mem.get_lt gs1)
  have b1 := Mem.But.put M x.s ⟨[AVal.ptr (some (x.p, 0)), .int .i64 ((cur.count (some g) : Nat) : Int)].set 1 (.int .i64 ((cur.count (some g) - 1 : Nat) : Int)), .fixed⟩
  have m1 : (M.put x.s ⟨[AVal.ptr (some (x.p, 0)), .int .i64 ((cur.count (some g) : Nat) : Int)].set 1 (.int .i64 ((cur.count (some g) - 1 : Nat) : Int)), .fixed⟩).n = M.n := rfl
  generalize M.put x.s ⟨[AVal.ptr (some (x.p, 0)), .int .i64 ((cur.count (some g) : Nat) : Int)].set 1 (.int .i64 ((cur.count (some g) - 1 : Nat) : Int)), .fixed⟩ = M1 at s1 k1 b1 m1
  have hne : h ≠ x.s := fun e => by rw [e, rs] at rh; cases rh
  have gh1 := b1.get gh hne
  have s2 := st_fix (i := 1) (vs := [.ptr none]) gh1 (by simp)
  rw [overL_one] at s2
  have k2 : (M1.put h ⟨[AVal.bool true, .ptr (ptrOf gs (some g))].set 1 (.ptr none), .fixed⟩).get h = some ⟨[.bool true, .ptr none], .fixed⟩ := get_put_self (Mem.get_lt gh1)
  have b2 := Mem.But.put M1 h ⟨[AVal.bool true, .ptr (ptrOf gs (some g))].set 1 (.ptr none), .fixed⟩
  have m2 : (M1.put h ⟨[AVal.bool true, .ptr (ptrOf gs (some g))].set 1 (.ptr none), .fixed⟩).n = M1.n := rfl
  generalize M1.put h ⟨[AVal.bool true, .ptr (ptrOf gs (some g))].set 1 (.ptr none), .fixed⟩ = M2 at s2 k2 b2 m2
  simp only [Option.bind_some, List.getElem?_cons_zero, List.getElem?_cons_succ, int?_int, AVal.bool?, AVal.ptr?, AVal.sl?, AVal.tup?, AVal.agg?, AVal.ifc?, AVal.fn?, AVal.str?, List.head?_cons, List.tail_cons, List.isEmpty_nil, cond_true, cond_false, Option.isNone_some, Option.isNone_none, Bool.not_true, Bool.not_false, decide_true, decide_false, beq_self_eq_true, bne_self_eq_false, Int.reduceBEq, Int.reduceBNe, Int.cast_ofNat_Int, t, Nat.zero_add, l1, l3, hw, s1, s2] at hE
  have bb : Mem.But (fun o => o = h ∨ o = x.s) M M2 := (b1.mono (fun o ho => Or.inr ho)).trans b2 (fun o _ ho => Or.inl ho)
  have oth := H.others i h hi g x hx bb
  have hup := H.up.1
  have cs : ∀ g', (cur.set i none).count (some g') = cur.count (some g') - (if g = g' then 1 else 0) := fun g' => by
    rw [List.count_set hil, hgi]
    by_cases e : g = g' <;> simp [e]
  refine ⟨M2, c11 hE, ⟨⟨by omega, fun o ho => by rw [bb.2 o (by omega) (by omega), H.up.2 o ho]⟩, by rw [List.length_set]; exact H.len, fun j h' c hj hcj => ?_, fun g' x' hg' => ?_, fun j g' hj => ?_, by rw [List.length_set]; exact H.few⟩, by omega, fun y hy ho => bb.2 y hy (by
    rintro (rfl | rfl)
    · rw [rh] at ho; cases ho
    · rw [rs] at ho; cases ho)⟩
  · by_cases e : j = i
    · subst e
      rw [hi] at hj
      cases hj
      rw [List.getElem?_set, if_pos rfl, if_pos hil] at hcj
      cases hcj
      exact ⟨k2, rh, n0⟩
    · rw [List.getElem?_set, if_neg (fun h => e h.symm)] at hcj
      obtain ⟨_, r, n⟩ := H.hand j h' c hj hcj
      exact ⟨oth.1 j h' c e hj hcj, r, n⟩
  · obtain ⟨_, _, r⟩ := H.grp g' x' hg'
    refine ⟨?_, oth.2.2 g' x' hg', r⟩
    rw [cs g']
    by_cases e : g' = g
    · subst e
      rw [hx] at hg'
      cases hg'
      rw [if_pos rfl]
      exact b2.get k1 hne.symm
    · rw [if_neg (fun h => e h.symm), Nat.sub_zero]
      exact oth.2.1 g' x' e hg'
  · rw [List.getElem?_set] at hj
    by_cases e : i = j
    · rw [if_pos e, if_pos hil] at hj
      cases hj
    · rw [if_neg e] at hj
      exact H.inb j g' hj
theorem SS.free0 (H : SS M0 M role hs cur gs N) (hi : hs[i]? = some h) (hc : cur[i]? = some none) : C 11 [.ptr (some (h, 0))] M = some (.int .i64 40, M) := by
  have hE := p11_0_eq C prog.meth (some (h, 0)) M
  simp only [Option.bind_some, List.getElem?_cons_zero, List.getElem?_cons_succ, int?_int, AVal.bool?, AVal.ptr?, AVal.sl?, AVal.tup?, AVal.agg?, AVal.ifc?, AVal.fn?, AVal.str?, List.head?_cons, List.tail_cons, List.isEmpty_nil, cond_true, cond_false, Option.isNone_some, Option.isNone_none, Bool.not_true, Bool.not_false, decide_true, decide_false, beq_self_eq_true, bne_self_eq_false, Int.reduceBEq, Int.reduceBNe, Int.cast_ofNat_Int, H.there0 hi hc] at hE
  exact c11 hE
/-- Clone. -/
theorem SS.clone (H : SS M0 M role hs cur gs N) (hi : hs[i]? = some h) (hc : cur[i]? = some (some g)) (hf : cur.length < 1000) : ∃ M' h' role', C 10 [.ptr (some (h, 0))] M = some (.tup [.ptr (some (h', 0)), .int .i64 0], M') ∧ SS M0 M' role' (hs ++ [h']) (cur ++ [some g]) gs N ∧ M.n ≤ h' ∧ (∀ y, y < M.n → role' y = role y) ∧ ∃ x, gs[g]? = some x ∧ Mem.But (· = x.s) M M' := by
  have hE := p10_0_eq C prog.meth (some (h, 0)) M
  obtain ⟨x, hx, t, l1, l2, l3⟩ := H.rd hi hc
  obtain ⟨gs1, ⟨a, tt, mv, hp, hmv⟩, rs, rp, ro, n1, n2, n3⟩ := H.grp g x hx
  obtain ⟨gh, rh, n0⟩ := H.hand i h _ hi hc
  have hcnt := H.cnt g
  have hw : IntKind.wrap .i64 (((cur.count (some g) : Nat) : Int) + 1) = ((cur.count (some g) + 1 : Nat) : Int) := by rw [wrap_i64 (by omega) (by omega)]; rfl
  have s1 := st_fix (i := 1) (vs := [.int .i64 ((cur.count (some g) + 1 : Nat) : Int)]) gs1 (by simp)
  rw [overL_one] at s1
  have k1 : (M.put x.s ⟨[AVal.ptr (some (x.p, 0)), .int .i64 ((cur.count (some g) : Nat) : Int)].set 1 (.int .i64 ((cur.count (some g) + 1 : Nat) : Int)), .fixed⟩).get x.s = some ⟨[.ptr (some (x.p, 0)), .int .i64 ((cur.count (some g) + 1 : Nat) : Int)], .fixed⟩ := get_put_self (Mem.get_lt gs1)
  have b1 := Mem.But.put M x.s ⟨[AVal.ptr (some (x.p, 0)), .int .i64 ((cur.count (some g) : Nat) : Int)].set 1 (.int .i64 ((cur.count (some g) + 1 : Nat) : Int)), .fixed⟩
  have m1 : (M.put x.s ⟨[AVal.ptr (some (x.p, 0)), .int .i64 ((cur.count (some g) : Nat) : Int)].set 1 (.int .i64 ((cur.count (some g) + 1 : Nat) : Int)), .fixed⟩).n = M.n := rfl
  generalize M.put x.s ⟨[AVal.ptr (some (x.p, 0)), .int .i64 ((cur.count (some g) : Nat) : Int)].set 1 (.int .i64 ((cur.count (some g) + 1 : Nat) : Int)), .fixed⟩ = M1 at s1 k1 b1 m1
  have hne : h ≠ x.s := fun e => by rw [e, rs] at rh; cases rh
  have gh1 := b1.get gh hne
  have hpo : ptrOf gs (some g) = some (x.s, 0) := by simp [ptrOf, hx]
  rw [hpo] at gh1
  have l4 := ldP_of gh1
  have u2 := Mem.Upto.alloc M1 ⟨[.bool true, .ptr (some (x.s, 0))], .fixed⟩
  have k2 := get_alloc_self M1 ⟨[.bool true, .ptr (some (x.s, 0))], .fixed⟩
  have m2 : (M1.alloc ⟨[.bool true, .ptr (some (x.s, 0))], .fixed⟩).n = M1.n + 1 := rfl
  simp only [Option.bind_some, List.getElem?_cons_zero, List.getElem?_cons_succ, int?_int, AVal.bool?, AVal.ptr?, AVal.sl?, AVal.tup?, AVal.agg?, AVal.ifc?, AVal.fn?, AVal.str?, List.head?_cons, List.tail_cons, List.isEmpty_nil, cond_true, cond_false, Option.isNone_some, Option.isNone_none, Bool.not_true, Bool.not_false, decide_true, decide_false, beq_self_eq_true, bne_self_eq_false, Int.reduceBEq, Int.reduceBNe, Int.cast_ofNat_Int, t, Nat.zero_add, l1, l3, hw, s1, l4] at hE
  generalize M1.alloc ⟨[.bool true, .ptr (some (x.s, 0))], .fixed⟩ = M2 at hE u2 k2 m2
  have bb : Mem.But (· = x.s) M M2 := b1.trans (u2.but _) (fun _ _ h => h)
  have bb2 : Mem.But (fun o => o = h ∨ o = x.s) M M2 := bb.mono (fun o ho => Or.inr ho)
  have oth := H.others i h hi g x hx bb2
  have hup := H.up.1
  have hl0 := H.len
  have cs : ∀ g', (cur ++ [some g]).count (some g') = cur.count (some g') + (if g = g' then 1 else 0) := fun g' => by
    rw [List.count_append]
    by_cases e : g = g' <;> simp [List.count_cons, e]
  have rl : ∀ y, y < M.n → (fun y => if y = M1.n then Rl.hand hs.length else role y) y = role y := fun y hy => by
    show (if y = M1.n then Rl.hand hs.length else role y) = role y
    rw [if_neg (by omega)]
  refine ⟨M2, M1.n, fun y => if y = M1.n then Rl.hand hs.length else role y, c10 hE, ⟨⟨by omega, fun o ho => by rw [bb.2 o (by omega) (by omega), H.up.2 o ho]⟩, by simp; omega, fun j h' c hj hcj => ?_, fun g' x' hg' => ?_, fun j g' hj => ?_, by simp; omega⟩, by omega, rl, x, hx, bb⟩
  · by_cases e : j < hs.length
    · rw [List.getElem?_append_left e] at hj
      rw [List.getElem?_append_left (by omega)] at hcj
      obtain ⟨q1, r, n⟩ := H.hand j h' c hj hcj
      refine ⟨?_, (rl _ (Mem.get_lt q1)).trans r, n⟩
      by_cases e2 : j = i
      · subst e2
        rw [hi] at hj; cases hj
        rw [hc] at hcj; cases hcj
        rw [hpo]; exact u2.get gh1
      · exact oth.1 j h' c e2 hj hcj
    · rw [List.getElem?_append_right (by omega)] at hj
      rw [List.getElem?_append_right (by omega)] at hcj
      have hj0 : j - hs.length = 0 := by
        have := (List.getElem?_eq_some_iff.1 hj).1
        simp at this; omega
      rw [hj0] at hj
      rw [show j - cur.length = 0 from by omega] at hcj
      cases hj
      cases hcj
      refine ⟨by rw [hpo]; exact k2, ?_, by omega⟩
      show (if M1.n = M1.n then Rl.hand hs.length else role M1.n) = Rl.hand j
      rw [if_pos rfl]; congr 1; omega
  · obtain ⟨q1, ⟨a', t', mv', hp', hm'⟩, r1, r2, r3, r⟩ := H.grp g' x' hg'
    refine ⟨?_, oth.2.2 g' x' hg', (rl _ (Mem.get_lt q1)).trans r1, (rl _ hp'.lt.1).trans r2, (rl _ hp'.lt.2).trans r3, r⟩
    rw [cs g']
    by_cases e : g' = g
    · subst e
      rw [hx] at hg'
      cases hg'
      rw [if_pos rfl]
      exact u2.get k1
    · rw [if_neg (fun h => e h.symm), Nat.add_zero]
      exact oth.2.1 g' x' e hg'
  · by_cases e : j < cur.length
    · rw [List.getElem?_append_left e] at hj
      exact H.inb j g' hj
    · rw [List.getElem?_append_right (by omega)] at hj
      have hj0 : j - cur.length = 0 := by
        have := (List.getElem?_eq_some_iff.1 hj).1
        simp at this; omega
      rw [hj0] at hj
      cases hj
      exact H.inb i g hc
/-- A packet laid anew. -/
theorem smade_C {ba : Option (Nat × Nat)} {bl : Nat} {bc : Cap} {xs : List Int} (hx : M.ints .u8 ba bl bc = some xs) (h1 : bl ≤ 2048) :
    ∃ M' s, C 25 [.sl ba bl bc] M = some (.tup [.ptr (some (s, 0)), .int .i64 0], M') ∧ M.Upto M' ∧ M'.get s = some ⟨[.ptr (some (M.n, 0)), .int .i64 1], .fixed⟩ ∧ IsP M' M.n (M.n + 1) xs 64 64 0 ∧ M.n + 1 < s := by
  have hE := p25_0_eq C prog.meth ba bl bc M
  obtain ⟨M1, c1, u1, q1⟩ := PNew_C (hd := 64) (tl := 64) hx h1 (by omega) (by omega)
  have c1' : C 47 [.sl ba bl bc, .int .i64 64, .int .i64 64] M = some (.tup [.ptr (some (M.n, 0)), .int .i64 0], M1) := c1
  have u2 := Mem.Upto.alloc M1 ⟨[.ptr (some (M.n, 0)), .int .i64 1], .fixed⟩
  simp only [Option.bind_some, List.getElem?_cons_zero, List.getElem?_cons_succ, int?_int, AVal.bool?, AVal.ptr?, AVal.sl?, AVal.tup?, AVal.agg?, AVal.ifc?, AVal.fn?, AVal.str?, List.head?_cons, List.tail_cons, List.isEmpty_nil, cond_true, cond_false, Option.isNone_some, Option.isNone_none, Bool.not_true, Bool.not_false, decide_true, decide_false, beq_self_eq_true, bne_self_eq_false, Int.reduceBEq, Int.reduceBNe, Int.cast_ofNat_Int, c1'] at hE
  exact ⟨_, _, c25 hE, u1.trans u2, get_alloc_self _ _, q1.upto u2, q1.lt.2⟩
/-- Own, where others have the packet too. -/
theorem SS.own_part (H : SS M0 M role hs cur gs N) (hi : hs[i]? = some h) (hc : cur[i]? = some (some g)) (h1 : 1 < cur.count (some g)) : ∃ M' x x' role', C 22 [.ptr (some (h, 0))] M = some (.tup [.ptr (some (x'.p, 0)), .int .i64 0], M') ∧ gs[g]? = some x ∧ x'.B = x.B ∧ SS M0 M' role' hs (cur.set i (some gs.length)) (gs ++ [x']) N ∧ M.n ≤ x'.s ∧ M.n ≤ x'.p ∧ M.n ≤ x'.o ∧ (∀ y, y < M.n → role' y = role y) ∧ Mem.But (fun o => o = h ∨ o = x.s) M M' := by
  have hE := p22_0_eq C prog.meth (some (h, 0)) M
  obtain ⟨x, hx, t, l1, l2, l3⟩ := H.rd hi hc
  obtain ⟨gs1, ⟨a, tt, mv, hp, hmv⟩, rs, rp, ro, n1, n2, n3⟩ := H.grp g x hx
  obtain ⟨gh, rh, n0⟩ := H.hand i h _ hi hc
  have hpo : ptrOf gs (some g) = some (x.s, 0) := by simp [ptrOf, hx]
  rw [hpo] at gh
  have hcnt := H.cnt g
  have hil : i < cur.length := (List.getElem?_eq_some_iff.1 hc).1
  have hgi : cur[i] = some g := (List.getElem?_eq_some_iff.1 hc).2
  have hgt : ((cur.count (some g) : Nat) : Int) > 1 := by omega
  simp only [Option.bind_some, List.getElem?_cons_zero, List.getElem?_cons_succ, int?_int, AVal.bool?, AVal.ptr?, AVal.sl?, AVal.tup?, AVal.agg?, AVal.ifc?, AVal.fn?, AVal.str?, List.head?_cons, List.tail_cons, List.isEmpty_nil, cond_true, cond_false, Option.isNone_some, Option.isNone_none, Bool.not_true, Bool.not_false, decide_true, decide_false, beq_self_eq_true, bne_self_eq_false, Int.reduceBEq, Int.reduceBNe, Int.cast_ofNat_Int, t, Nat.zero_add, l1, l3, hgt] at hE
  have hE1 := p22_1_eq C prog.meth (some (h, 0)) M
  obtain ⟨di, c1, _, c2⟩ := PData_C hp
  have hsz := hp.sz
  obtain ⟨M1, s', c3, u1, k0, q1, hs'⟩ := smade_C c2 (by omega)
  have gs2 := u1.get gs1
  have gh2 := u1.get gh
  have e1 : M1.ldP h 1 = some (some (x.s, 0)) := ldP_of gh2
  have e2 : M1.ldI .i64 x.s 1 = some ((cur.count (some g) : Nat) : Int) := ldI_ld.2 (by rw [ld_fix gs2]; rfl)
  have hw : IntKind.wrap .i64 (((cur.count (some g) : Nat) : Int) - 1) = ((cur.count (some g) - 1 : Nat) : Int) := by rw [wrap_i64 (by omega) (by omega)]; omega
  have s1 := st_fix (i := 1) (vs := [.int .i64 ((cur.count (some g) - 1 : Nat) : Int)]) gs2 (by simp)
  rw [overL_one] at s1
  have k1 : (M1.put x.s ⟨[AVal.ptr (some (x.p, 0)), .int .i64 ((cur.count (some g) : Nat) : Int)].set 1 (.int .i64 ((cur.count (some g) - 1 : Nat) : Int)), .fixed⟩).get x.s = some ⟨[.ptr (some (x.p, 0)), .int .i64 ((cur.count (some g) - 1 : Nat) : Int)], .fixed⟩ := get_put_self (Mem.get_lt gs2)
  have b1 := Mem.But.put M1 x.s ⟨[AVal.ptr (some (x.p, 0)), .int .i64 ((cur.count (some g) : Nat) : Int)].set 1 (.int .i64 ((cur.count (some g) - 1 : Nat) : Int)), .fixed⟩
  have m1 : (M1.put x.s ⟨[AVal.ptr (some (x.p, 0)), .int .i64 ((cur.count (some g) : Nat) : Int)].set 1 (.int .i64 ((cur.count (some g) - 1 : Nat) : Int)), .fixed⟩).n = M1.n := rfl
  generalize M1.put x.s ⟨[AVal.ptr (some (x.p, 0)), .int .i64 ((cur.count (some g) : Nat) : Int)].set 1 (.int .i64 ((cur.count (some g) - 1 : Nat) : Int)), .fixed⟩ = M2 at s1 k1 b1 m1
  have hne : h ≠ x.s := fun e => by rw [e, rs] at rh; cases rh
  have gh3 := b1.get gh2 hne
  have s2 := st_fix (i := 1) (vs := [.ptr (some (s', 0))]) gh3 (by simp)
  rw [overL_one] at s2
  have k2 : (M2.put h ⟨[AVal.bool true, .ptr (some (x.s, 0))].set 1 (.ptr (some (s', 0))), .fixed⟩).get h = some ⟨[.bool true, .ptr (some (s', 0))], .fixed⟩ := get_put_self (Mem.get_lt gh3)
  have b2 := Mem.But.put M2 h ⟨[AVal.bool true, .ptr (some (x.s, 0))].set 1 (.ptr (some (s', 0))), .fixed⟩
  have m2 : (M2.put h ⟨[AVal.bool true, .ptr (some (x.s, 0))].set 1 (.ptr (some (s', 0))), .fixed⟩).n = M2.n := rfl
  generalize M2.put h ⟨[AVal.bool true, .ptr (some (x.s, 0))].set 1 (.ptr (some (s', 0))), .fixed⟩ = M3 at s2 k2 b2 m2
  simp only [Option.bind_some, List.getElem?_cons_zero, List.getElem?_cons_succ, int?_int, AVal.bool?, AVal.ptr?, AVal.sl?, AVal.tup?, AVal.agg?, AVal.ifc?, AVal.fn?, AVal.str?, List.head?_cons, List.tail_cons, List.isEmpty_nil, cond_true, cond_false, Option.isNone_some, Option.isNone_none, Bool.not_true, Bool.not_false, decide_true, decide_false, beq_self_eq_true, bne_self_eq_false, Int.reduceBEq, Int.reduceBNe, Int.cast_ofNat_Int, l1, Nat.zero_add, l2, c1, c3, e1, e2, hw, s1, s2] at hE1
  have bb1 : Mem.But (fun o => o = h ∨ o = x.s) M1 M3 := (b1.mono (fun o ho => Or.inr ho)).trans b2 (fun o _ ho => Or.inl ho)
  have bb : Mem.But (fun o => o = h ∨ o = x.s) M M3 := (u1.but _).trans bb1 (fun _ _ h => h)
  have hhl := Mem.get_lt gh
  have hxl := Mem.get_lt gs1
  have k3 : M3.get s' = some ⟨[.ptr (some (M.n, 0)), .int .i64 1], .fixed⟩ := bb1.get k0 (by omega)
  have hsl := Mem.get_lt k0
  have hl1 := q1.lt
  have q3 : IsP M3 M.n (M.n + 1) x.B 64 64 0 := q1.same (bb1.2 _ hl1.1 (by omega)) (bb1.2 _ hl1.2 (by omega))
  have hE2 := p22_2_eq C prog.meth (some (h, 0)) M3
  have f1 : M3.ldP h 1 = some (some (s', 0)) := ldP_of k2
  have f2 : M3.ldP s' 0 = some (some (M.n, 0)) := by unfold Mem.ldP; rw [ld_fix k3]; rfl
  simp only [Option.bind_some, List.getElem?_cons_zero, List.getElem?_cons_succ, int?_int, AVal.bool?, AVal.ptr?, AVal.sl?, AVal.tup?, AVal.agg?, AVal.ifc?, AVal.fn?, AVal.str?, List.head?_cons, List.tail_cons, List.isEmpty_nil, cond_true, cond_false, Option.isNone_some, Option.isNone_none, Bool.not_true, Bool.not_false, decide_true, decide_false, beq_self_eq_true, bne_self_eq_false, Int.reduceBEq, Int.reduceBNe, Int.cast_ofNat_Int, Nat.zero_add, f1, f2] at hE2
  have oth := H.others i h hi g x hx bb
  have hup := H.up.1
  have cs : ∀ g', (cur.set i (some gs.length)).count (some g') = cur.count (some g') - (if g = g' then 1 else 0) + (if gs.length = g' then 1 else 0) := fun g' => by
    rw [List.count_set hil, hgi]
    by_cases e : g = g' <;> by_cases e2 : gs.length = g' <;> simp [e, e2]
  have hglt := H.inb i g hc
  let R' : Nat → Rl := fun y => if y = s' then .sh gs.length else if y = M.n then .pk gs.length else if y = M.n + 1 then .mm gs.length else role y
  have rl : ∀ y, y < M.n → R' y = role y := fun y hy => by
    show (if y = s' then Rl.sh gs.length else if y = M.n then .pk gs.length else if y = M.n + 1 then .mm gs.length else role y) = role y
    rw [if_neg (by omega), if_neg (by omega), if_neg (by omega)]
  have c0 : cur.count (some gs.length) = 0 := List.count_eq_zero.2 (fun hm => by
    obtain ⟨j, hj⟩ := List.getElem?_of_mem hm
    have := H.inb j _ hj; omega)
  refine ⟨M3, x, ⟨s', M.n, M.n + 1, x.B⟩, R', c22 (hE.trans (hE1.trans hE2)), hx, rfl, ⟨⟨by omega, fun o ho => by rw [bb.2 o (by omega) (by omega), H.up.2 o ho]⟩, by rw [List.length_set]; exact H.len, fun j h' c hj hcj => ?_, fun g' x' hg' => ?_, fun j g' hj => ?_, by rw [List.length_set]; exact H.few⟩, by show M.n ≤ s'; omega, Nat.le_refl _, Nat.le_succ _, rl, bb⟩
  · by_cases e : j = i
    · subst e
      rw [hi] at hj
      cases hj
      rw [List.getElem?_set, if_pos rfl, if_pos hil] at hcj
      cases hcj
      exact ⟨by simpa [ptrOf] using k2, (rl _ hhl).trans rh, n0⟩
    · rw [List.getElem?_set, if_neg (fun h => e h.symm)] at hcj
      obtain ⟨q, r, n⟩ := H.hand j h' c hj hcj
      refine ⟨?_, (rl _ (Mem.get_lt q)).trans r, n⟩
      rw [oth.1 j h' c e hj hcj]
      cases c with
      | none => rfl
      | some g2 =>
        have := H.inb j g2 hcj
        simp [ptrOf, List.getElem?_append_left this]
  · by_cases e : g' < gs.length
    · rw [List.getElem?_append_left e] at hg'
      obtain ⟨q, ⟨a', t', mv', hp', hm'⟩, r1, r2, r3, r⟩ := H.grp g' x' hg'
      refine ⟨?_, oth.2.2 g' x' hg', (rl _ (Mem.get_lt q)).trans r1, (rl _ hp'.lt.1).trans r2, (rl _ hp'.lt.2).trans r3, r⟩
      rw [cs g', if_neg (show ¬ gs.length = g' from by omega), Nat.add_zero]
      by_cases e2 : g' = g
      · subst e2
        rw [hx] at hg'
        cases hg'
        rw [if_pos rfl]
        exact b2.get k1 hne.symm
      · rw [if_neg (fun h => e2 h.symm), Nat.sub_zero]
        exact oth.2.1 g' x' e2 hg'
    · rw [List.getElem?_append_right (by omega)] at hg'
      have hj0 : g' - gs.length = 0 := by
        have := (List.getElem?_eq_some_iff.1 hg').1
        simp at this; omega
      rw [hj0] at hg'
      cases hg'
      obtain rfl : g' = gs.length := by omega
      rw [cs gs.length, if_pos rfl, if_neg (by omega), c0]
      refine ⟨k3, ⟨_, _, _, q3, Nat.zero_le _⟩, ?_, ?_, ?_, by show M0.n ≤ s'; omega, by show M0.n ≤ M.n; omega, by show M0.n ≤ M.n + 1; omega⟩
      · show (if s' = s' then Rl.sh gs.length else _) = _
        rw [if_pos rfl]
      · show (if M.n = s' then Rl.sh gs.length else if M.n = M.n then .pk gs.length else _) = _
        rw [if_neg (by omega), if_pos rfl]
      · show (if M.n + 1 = s' then Rl.sh gs.length else if M.n + 1 = M.n then .pk gs.length else if M.n + 1 = M.n + 1 then .mm gs.length else _) = _
        rw [if_neg (by omega), if_neg (by omega), if_pos rfl]
  · rw [List.length_append, List.length_singleton]
    rw [List.getElem?_set] at hj
    by_cases e : i = j
    · rw [if_pos e, if_pos hil] at hj
      cases hj; omega
    · rw [if_neg e] at hj
      have := H.inb j g' hj; omega
theorem SS.own_sole (H : SS M0 M role hs cur gs N) (hi : hs[i]? = some h) (hc : cur[i]? = some (some g)) (h1 : ¬ 1 < cur.count (some g)) : ∃ x, gs[g]? = some x ∧ C 22 [.ptr (some (h, 0))] M = some (.tup [.ptr (some (x.p, 0)), .int .i64 0], M) := by
  have hE := p22_0_eq C prog.meth (some (h, 0)) M
  obtain ⟨x, hx, t, l1, l2, l3⟩ := H.rd hi hc
  have hgt : ¬ (((cur.count (some g) : Nat) : Int) > 1) := by omega
  simp only [Option.bind_some, List.getElem?_cons_zero, List.getElem?_cons_succ, int?_int, AVal.bool?, AVal.ptr?, AVal.sl?, AVal.tup?, AVal.agg?, AVal.ifc?, AVal.fn?, AVal.str?, List.head?_cons, List.tail_cons, List.isEmpty_nil, cond_true, cond_false, Option.isNone_some, Option.isNone_none, Bool.not_true, Bool.not_false, decide_true, decide_false, beq_self_eq_true, bne_self_eq_false, Int.reduceBEq, Int.reduceBNe, Int.cast_ofNat_Int, t, Nat.zero_add, l1, l3, hgt] at hE
  have hE2 := p22_2_eq C prog.meth (some (h, 0)) M
  simp only [Option.bind_some, List.getElem?_cons_zero, List.getElem?_cons_succ, int?_int, AVal.bool?, AVal.ptr?, AVal.sl?, AVal.tup?, AVal.agg?, AVal.ifc?, AVal.fn?, AVal.str?, List.head?_cons, List.tail_cons, List.isEmpty_nil, cond_true, cond_false, Option.isNone_some, Option.isNone_none, Bool.not_true, Bool.not_false, decide_true, decide_false, beq_self_eq_true, bne_self_eq_false, Int.reduceBEq, Int.reduceBNe, Int.cast_ofNat_Int, Nat.zero_add, l1, l2] at hE2
  exact ⟨x, hx, c22 (hE.trans hE2)⟩
end
end Go.Proofs.Ytfdlmneofbcpnaa.M
