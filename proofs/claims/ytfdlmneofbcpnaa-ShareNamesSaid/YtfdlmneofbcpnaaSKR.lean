/- Handles of the program and of the document: what their functions answer. -/
import Derived.Test.YtfdlmneofbcpnaaSJ
import Derived.Test.YtfdlmneofbcpnaaSH
import Derived.Test.YtfdlmneofbcpnaaXLib7
set_option linter.unusedVariables false
set_option linter.unusedSimpArgs false
set_option linter.unnecessarySimpa false
set_option maxRecDepth 100000
namespace Go.Proofs.Ytfdlmneofbcpnaa.M
open Go.Abs

def KI : Kd where
  pk M p fp d := ∃ o, fp = [o] ∧ IsP M p o d.B d.a d.t d.mv
  same := by
    rintro M M' p fp d ⟨o, rfl, h⟩ h1 h2
    exact ⟨o, rfl, h.same h1 (h2 o (by simp))⟩
  lt := by
    rintro M p fp d ⟨o, rfl, h⟩
    exact ⟨h.lt.1, fun y hy => by simp only [List.mem_singleton] at hy; subst hy; exact h.lt.2⟩
  ap := by
    rintro M p fp d ⟨o, rfl, h⟩ hm
    simp only [List.mem_singleton] at hm
    exact h.ne hm
  hc c cells := cells = [.bool true, .ptr (c.map fun s => (s, 0))]
def KR : Kd where
  pk M p fp d := ∃ v : SlV, fp = fpS v ∧ IsRP M p v d.B d.a d.t d.mv
  same := by
    rintro M M' p fp d ⟨v, rfl, h⟩ h1 h2
    exact ⟨v, rfl, h.same h1 h2⟩
  lt := by
    rintro M p fp d ⟨v, rfl, h⟩
    exact h.lt
  ap := by
    rintro M p fp d ⟨v, rfl, h⟩
    exact h.ne
  hc c cells := ∃ q, cells = [.ptr q, .bool c.isNone] ∧ ∀ s, c = some s → q = some (s, 0)
/-! What becomes of the groups when a handle parts. -/
def oC (cur : List (Option Nat)) (n i g : Nat) : List (Option Nat) := if 1 < cur.count (some g) then cur.set i (some n) else cur
def oD (cur : List (Option Nat)) (ds : List Dt) (g : Nat) (d : Dt) : List Dt := if 1 < cur.count (some g) then ds ++ [⟨d.B, 64, 64, 0⟩] else ds
def oG (cur : List (Option Nat)) (n g : Nat) : Nat := if 1 < cur.count (some g) then n else g
def oE (cur : List (Option Nat)) (g : Nat) (d : Dt) : Dt := if 1 < cur.count (some g) then ⟨d.B, 64, 64, 0⟩ else d
theorem o_dat {cur : List (Option Nat)} {ds : List Dt} {g : Nat} {d : Dt} (hd : ds[g]? = some d) : (oD cur ds g d)[oG cur ds.length g]? = some (oE cur g d) := by
  unfold oD oG oE
  by_cases h : 1 < cur.count (some g)
  · rw [if_pos h, if_pos h, if_pos h]; simp
  · rw [if_neg h, if_neg h, if_neg h]; exact hd
theorem o_cur {cur : List (Option Nat)} {n i g : Nat} (hc : cur[i]? = some (some g)) : (oC cur n i g)[i]? = some (some (oG cur n g)) := by
  unfold oC oG
  have hil := (List.getElem?_eq_some_iff.1 hc).1
  by_cases h : 1 < cur.count (some g)
  · rw [if_pos h, if_pos h, List.getElem?_set, if_pos rfl, if_pos hil]
  · rw [if_neg h, if_neg h]; exact hc
theorem oE_B (cur : List (Option Nat)) (g : Nat) (d : Dt) : (oE cur g d).B = d.B := by unfold oE; split <;> rfl
theorem oC_length (cur : List (Option Nat)) (n i g : Nat) : (oC cur n i g).length = cur.length := by unfold oC; split <;> simp
section
variable {M0 M : Mem} {role : Nat → Rj} {hs : List Nat} {cur : List (Option Nat)} {gs : List Gp} {ds : List Dt} {i h g : Nat} {x : Gp} {d : Dt}
/-- A handle that was given up, and dropped. -/
theorem GS.pop {b : Bool} {K : Kd} {h' : Nat} (H : GS b K M0 M role (hs ++ [h']) (cur ++ [none]) gs ds) (hl : hs.length = cur.length) : GS b K M0 M role hs cur gs ds := by
  have hf := H.few
  refine ⟨H.up, hl, fun j h2 c h3 h4 => H.hand j h2 c ?_ ?_, fun g x d h1 h2 => ?_, H.lend, fun j g h1 => H.inb j g ?_, by simp at hf; omega⟩
  · rw [List.getElem?_append_left (List.getElem?_eq_some_iff.1 h3).1]; exact h3
  · rw [List.getElem?_append_left (List.getElem?_eq_some_iff.1 h4).1]; exact h4
  · obtain ⟨q1, q⟩ := H.grp g x d h1 h2
    rw [List.count_append] at q1
    exact ⟨by simpa using q1, q⟩
  · rw [List.getElem?_append_left (List.getElem?_eq_some_iff.1 h1).1]; exact h1
/-! The program's. -/
theorem I_rd (H : GS false KI M0 M role hs cur gs ds) (hi : hs[i]? = some h) (hc : cur[i]? = some (some g)) (hx : gs[g]? = some x) (hd : ds[g]? = some d) : ∃ o, x.fp = [o] ∧ IsP M x.p o d.B d.a d.t d.mv ∧ M.get h = some ⟨[.bool true, .ptr (some (x.s, 0))], .fixed⟩ ∧ M.get x.s = some ⟨[.ptr (some (x.p, 0)), .int .i64 ((cur.count (some g) : Nat) : Int)], .fixed⟩ ∧ C 26 [.ptr (some (h, 0))] M = some (.int .i64 0, M) := by
  obtain ⟨⟨cells, q1, q2⟩, _⟩ := H.hand i h _ hi hc
  obtain ⟨g1, ⟨o, ho, hp⟩, _⟩ := H.grp g x d hx hd
  have q2 : cells = [.bool true, .ptr (some (x.s, 0))] := by
    have : cells = [.bool true, .ptr (((some g).bind fun g => (gs[g]?).map (·.s)).map fun s => (s, 0))] := q2
    simpa [hx] using this
  rw [q2] at q1
  exact ⟨o, ho, hp, q1, g1, there_of q1⟩
theorem I_gone (H : GS false KI M0 M role hs cur gs ds) (hi : hs[i]? = some h) (hc : cur[i]? = some none) : C 26 [.ptr (some (h, 0))] M = some (.int .i64 40, M) := by
  obtain ⟨⟨cells, q1, q2⟩, _⟩ := H.hand i h _ hi hc
  have q2 : cells = [.bool true, .ptr none] := q2
  rw [q2] at q1
  exact there_of q1
theorem I_free (H : GS false KI M0 M role hs cur gs ds) (hi : hs[i]? = some h) (hc : cur[i]? = some (some g)) : ∃ M', C 11 [.ptr (some (h, 0))] M = some (.int .i64 0, M') ∧ GS false KI M0 M' role hs (cur.set i none) gs ds ∧ Fj false role role M M' := by
  have hE := p11_0_eq C prog.meth (some (h, 0)) M
  obtain ⟨x, d, hx, hd⟩ := H.at hc
  obtain ⟨o, ho, hp, gh, gS, t⟩ := I_rd H hi hc hx hd
  have hcnt := H.cnt g
  have hpos := cnt_pos hc
  have hne : h ≠ x.s := (H.two (M' := M) hi hc hx (Mem.But.refl _ _)).2.2.2.2
  have hw : IntKind.wrap .i64 (((cur.count (some g) : Nat) : Int) - 1) = ((cur.count (some g) - 1 : Nat) : Int) := by rw [wrap_i64 (by omega) (by omega)]; omega
  obtain ⟨M1, s1, k1, m1, b1⟩ := st_at (i := 1) (vs := [.int .i64 ((cur.count (some g) - 1 : Nat) : Int)]) gS (by simp)
  obtain ⟨M2, s2, k2, m2, b2⟩ := st_at (i := 1) (vs := [.ptr none]) (b1.get gh hne) (by simp)
  simp only [Option.bind_some, List.getElem?_cons_zero, List.getElem?_cons_succ, int?_int, AVal.bool?, AVal.ptr?, AVal.sl?, AVal.tup?, AVal.agg?, AVal.ifc?, AVal.fn?, AVal.str?, List.head?_cons, List.tail_cons, List.isEmpty_nil, cond_true, cond_false, Option.isNone_some, Option.isNone_none, Bool.not_true, Bool.not_false, decide_true, decide_false, beq_self_eq_true, bne_self_eq_false, Int.reduceBEq, Int.reduceBNe, Int.cast_ofNat_Int, t, Nat.zero_add, ldP_at gh, ldI_at gS, hw, s1, s2] at hE
  have bb : Mem.But (fun o => o = h ∨ o = x.s) M M2 := (b1.mono (fun o ho => Or.inr ho)).trans b2 (fun o _ ho => Or.inl ho)
  obtain ⟨H', F⟩ := H.free hi hc hx bb (cells := [.bool true, .ptr none]) k2 rfl (b2.get k1 hne.symm)
  exact ⟨M2, c11 hE, H', F⟩
theorem I_free0 (H : GS false KI M0 M role hs cur gs ds) (hi : hs[i]? = some h) (hc : cur[i]? = some none) : C 11 [.ptr (some (h, 0))] M = some (.int .i64 40, M) := by
  have hE := p11_0_eq C prog.meth (some (h, 0)) M
  simp only [Option.bind_some, List.getElem?_cons_zero, List.getElem?_cons_succ, int?_int, AVal.bool?, AVal.ptr?, AVal.sl?, AVal.tup?, AVal.agg?, AVal.ifc?, AVal.fn?, AVal.str?, List.head?_cons, List.tail_cons, List.isEmpty_nil, cond_true, cond_false, Option.isNone_some, Option.isNone_none, Bool.not_true, Bool.not_false, decide_true, decide_false, beq_self_eq_true, bne_self_eq_false, Int.reduceBEq, Int.reduceBNe, Int.cast_ofNat_Int, I_gone H hi hc] at hE
  exact c11 hE
theorem I_clone (H : GS false KI M0 M role hs cur gs ds) (hi : hs[i]? = some h) (hc : cur[i]? = some (some g)) (hf : cur.length < 1000) : ∃ M' h' role', C 10 [.ptr (some (h, 0))] M = some (.tup [.ptr (some (h', 0)), .int .i64 0], M') ∧ GS false KI M0 M' role' (hs ++ [h']) (cur ++ [some g]) gs ds ∧ Fj false role role' M M' := by
  have hE := p10_0_eq C prog.meth (some (h, 0)) M
  obtain ⟨x, d, hx, hd⟩ := H.at hc
  obtain ⟨o, ho, hp, gh, gS, t⟩ := I_rd H hi hc hx hd
  have hcnt := H.cnt g
  have hne : h ≠ x.s := (H.two (M' := M) hi hc hx (Mem.But.refl _ _)).2.2.2.2
  have hw : IntKind.wrap .i64 (((cur.count (some g) : Nat) : Int) + 1) = ((cur.count (some g) + 1 : Nat) : Int) := by rw [wrap_i64 (by omega) (by omega)]; omega
  obtain ⟨M1, s1, k1, m1, b1⟩ := st_at (i := 1) (vs := [.int .i64 ((cur.count (some g) + 1 : Nat) : Int)]) gS (by simp)
  have gh1 := b1.get gh hne
  obtain ⟨M2, e2, k2, u2, n2⟩ := alloc_at M1 ⟨[.bool true, .ptr (some (x.s, 0))], .fixed⟩
  simp only [Option.bind_some, List.getElem?_cons_zero, List.getElem?_cons_succ, int?_int, AVal.bool?, AVal.ptr?, AVal.sl?, AVal.tup?, AVal.agg?, AVal.ifc?, AVal.fn?, AVal.str?, List.head?_cons, List.tail_cons, List.isEmpty_nil, cond_true, cond_false, Option.isNone_some, Option.isNone_none, Bool.not_true, Bool.not_false, decide_true, decide_false, beq_self_eq_true, bne_self_eq_false, Int.reduceBEq, Int.reduceBNe, Int.cast_ofNat_Int, t, Nat.zero_add, ldP_at gh, ldI_at gS, hw, s1, ldP_at gh1, e2] at hE
  obtain ⟨role', H', F⟩ := H.clone hi hc hx hf (h' := M1.n) (b1.trans (u2.but _) (fun _ _ h => h)) (by omega) k2 rfl (u2.get k1)
  exact ⟨M2, M1.n, role', c10 hE, H', F⟩
theorem I_clone0 (H : GS false KI M0 M role hs cur gs ds) (hi : hs[i]? = some h) (hc : cur[i]? = some none) : C 10 [.ptr (some (h, 0))] M = some (.tup [.ptr none, .int .i64 40], M) := by
  have hE := p10_0_eq C prog.meth (some (h, 0)) M
  simp only [Option.bind_some, List.getElem?_cons_zero, List.getElem?_cons_succ, int?_int, AVal.bool?, AVal.ptr?, AVal.sl?, AVal.tup?, AVal.agg?, AVal.ifc?, AVal.fn?, AVal.str?, List.head?_cons, List.tail_cons, List.isEmpty_nil, cond_true, cond_false, Option.isNone_some, Option.isNone_none, Bool.not_true, Bool.not_false, decide_true, decide_false, beq_self_eq_true, bne_self_eq_false, Int.reduceBEq, Int.reduceBNe, Int.cast_ofNat_Int, I_gone H hi hc] at hE
  exact c10 hE
def cntO (cur : List (Option Nat)) : Option Nat → Nat
  | none => 0
  | some g => cur.count (some g)
def bytesO (ds : List Dt) : Option Nat → List Int
  | none => []
  | some g => match ds[g]? with
    | some d => d.B
    | none => []
theorem I_count (H : GS false KI M0 M role hs cur gs ds) (hi : hs[i]? = some h) {c : Option Nat} (hc : cur[i]? = some c) : C 13 [.ptr (some (h, 0))] M = some (.int .i64 ((cntO cur c : Nat) : Int), M) := by
  have hE := p13_0_eq C prog.meth (some (h, 0)) M
  cases c with
  | none =>
    simp only [Option.bind_some, List.getElem?_cons_zero, List.getElem?_cons_succ, int?_int, AVal.bool?, AVal.ptr?, AVal.sl?, AVal.tup?, AVal.agg?, AVal.ifc?, AVal.fn?, AVal.str?, List.head?_cons, List.tail_cons, List.isEmpty_nil, cond_true, cond_false, Option.isNone_some, Option.isNone_none, Bool.not_true, Bool.not_false, decide_true, decide_false, beq_self_eq_true, bne_self_eq_false, Int.reduceBEq, Int.reduceBNe, Int.cast_ofNat_Int, I_gone H hi hc] at hE
    exact c13 hE
  | some g =>
    obtain ⟨x, d, hx, hd⟩ := H.at hc
    obtain ⟨o, ho, hp, gh, gS, t⟩ := I_rd H hi hc hx hd
    simp only [Option.bind_some, List.getElem?_cons_zero, List.getElem?_cons_succ, int?_int, AVal.bool?, AVal.ptr?, AVal.sl?, AVal.tup?, AVal.agg?, AVal.ifc?, AVal.fn?, AVal.str?, List.head?_cons, List.tail_cons, List.isEmpty_nil, cond_true, cond_false, Option.isNone_some, Option.isNone_none, Bool.not_true, Bool.not_false, decide_true, decide_false, beq_self_eq_true, bne_self_eq_false, Int.reduceBEq, Int.reduceBNe, Int.cast_ofNat_Int, t, Nat.zero_add, ldP_at gh, ldI_at gS] at hE
    exact c13 hE
theorem I_len (H : GS false KI M0 M role hs cur gs ds) (hi : hs[i]? = some h) {c : Option Nat} (hc : cur[i]? = some c) : C 24 [.ptr (some (h, 0))] M = some (.int .i64 ((bytesO ds c).length : Int), M) := by
  have hE := p24_0_eq C prog.meth (some (h, 0)) M
  cases c with
  | none =>
    simp only [Option.bind_some, List.getElem?_cons_zero, List.getElem?_cons_succ, int?_int, AVal.bool?, AVal.ptr?, AVal.sl?, AVal.tup?, AVal.agg?, AVal.ifc?, AVal.fn?, AVal.str?, List.head?_cons, List.tail_cons, List.isEmpty_nil, cond_true, cond_false, Option.isNone_some, Option.isNone_none, Bool.not_true, Bool.not_false, decide_true, decide_false, beq_self_eq_true, bne_self_eq_false, Int.reduceBEq, Int.reduceBNe, Int.cast_ofNat_Int, I_gone H hi hc] at hE
    exact c24 hE
  | some g =>
    obtain ⟨x, d, hx, hd⟩ := H.at hc
    obtain ⟨o, ho, hp, gh, gS, t⟩ := I_rd H hi hc hx hd
    simp only [Option.bind_some, List.getElem?_cons_zero, List.getElem?_cons_succ, int?_int, AVal.bool?, AVal.ptr?, AVal.sl?, AVal.tup?, AVal.agg?, AVal.ifc?, AVal.fn?, AVal.str?, List.head?_cons, List.tail_cons, List.isEmpty_nil, cond_true, cond_false, Option.isNone_some, Option.isNone_none, Bool.not_true, Bool.not_false, decide_true, decide_false, beq_self_eq_true, bne_self_eq_false, Int.reduceBEq, Int.reduceBNe, Int.cast_ofNat_Int, t, Nat.zero_add, ldP_at gh, ldP_at gS, PLen_C hp] at hE
    simp only [bytesO, hd]
    exact c24 hE
theorem I_bytes (H : GS false KI M0 M role hs cur gs ds) (hi : hs[i]? = some h) {c : Option Nat} (hc : cur[i]? = some c) : ∃ M' v, C 17 [.ptr (some (h, 0))] M = some (.sl v.1 v.2.1 v.2.2, M') ∧ M.Upto M' ∧ Own1 M' v (bytesO ds c) ∧ (∀ o ∈ fpS v, M.n ≤ o) := by
  have hE := p17_0_eq C prog.meth (some (h, 0)) M
  cases c with
  | none =>
    simp only [Option.bind_some, List.getElem?_cons_zero, List.getElem?_cons_succ, int?_int, AVal.bool?, AVal.ptr?, AVal.sl?, AVal.tup?, AVal.agg?, AVal.ifc?, AVal.fn?, AVal.str?, List.head?_cons, List.tail_cons, List.isEmpty_nil, cond_true, cond_false, Option.isNone_some, Option.isNone_none, Bool.not_true, Bool.not_false, decide_true, decide_false, beq_self_eq_true, bne_self_eq_false, Int.reduceBEq, Int.reduceBNe, Int.cast_ofNat_Int, I_gone H hi hc] at hE
    exact ⟨M, (none, 0, .known 0), c17 hE, Mem.Upto.refl M, ⟨rfl, fun h => by simp at h⟩, by simp [fpS]⟩
  | some g =>
    obtain ⟨x, d, hx, hd⟩ := H.at hc
    obtain ⟨o, ho, hp, gh, gS, t⟩ := I_rd H hi hc hx hd
    obtain ⟨M', v, c1, u1, o1, f1⟩ := PBytes_C hp
    simp only [Option.bind_some, List.getElem?_cons_zero, List.getElem?_cons_succ, int?_int, AVal.bool?, AVal.ptr?, AVal.sl?, AVal.tup?, AVal.agg?, AVal.ifc?, AVal.fn?, AVal.str?, List.head?_cons, List.tail_cons, List.isEmpty_nil, cond_true, cond_false, Option.isNone_some, Option.isNone_none, Bool.not_true, Bool.not_false, decide_true, decide_false, beq_self_eq_true, bne_self_eq_false, Int.reduceBEq, Int.reduceBNe, Int.cast_ofNat_Int, t, Nat.zero_add, ldP_at gh, ldP_at gS, c1] at hE
    simp only [bytesO, hd]
    exact ⟨M', v, c17 hE, u1, o1, f1⟩
theorem I_own0 (H : GS false KI M0 M role hs cur gs ds) (hi : hs[i]? = some h) (hc : cur[i]? = some none) : C 22 [.ptr (some (h, 0))] M = some (.tup [.ptr none, .int .i64 40], M) := by
  have hE := p22_0_eq C prog.meth (some (h, 0)) M
  simp only [Option.bind_some, List.getElem?_cons_zero, List.getElem?_cons_succ, int?_int, AVal.bool?, AVal.ptr?, AVal.sl?, AVal.tup?, AVal.agg?, AVal.ifc?, AVal.fn?, AVal.str?, List.head?_cons, List.tail_cons, List.isEmpty_nil, cond_true, cond_false, Option.isNone_some, Option.isNone_none, Bool.not_true, Bool.not_false, decide_true, decide_false, beq_self_eq_true, bne_self_eq_false, Int.reduceBEq, Int.reduceBNe, Int.cast_ofNat_Int, I_gone H hi hc] at hE
  exact c22 hE
theorem I_own (H : GS false KI M0 M role hs cur gs ds) (hi : hs[i]? = some h) (hc : cur[i]? = some (some g)) (hd : ds[g]? = some d) : ∃ M' role' gs' x', C 22 [.ptr (some (h, 0))] M = some (.tup [.ptr (some (x'.p, 0)), .int .i64 0], M') ∧ GS false KI M0 M' role' hs (oC cur ds.length i g) gs' (oD cur ds g d) ∧ Fj false role role' M M' ∧ gs'[oG cur ds.length g]? = some x' := by
  have hE := p22_0_eq C prog.meth (some (h, 0)) M
  obtain ⟨x, d', hx, hd'⟩ := H.at hc
  rw [hd] at hd'; cases hd'
  obtain ⟨o, ho, hp, gh, gS, t⟩ := I_rd H hi hc hx hd
  have hld := H.lend
  unfold oC oD oG
  by_cases h1 : 1 < cur.count (some g)
  · rw [if_pos h1, if_pos h1, if_pos h1]
    have hgt : ((cur.count (some g) : Nat) : Int) > 1 := by omega
    simp only [Option.bind_some, List.getElem?_cons_zero, List.getElem?_cons_succ, int?_int, AVal.bool?, AVal.ptr?, AVal.sl?, AVal.tup?, AVal.agg?, AVal.ifc?, AVal.fn?, AVal.str?, List.head?_cons, List.tail_cons, List.isEmpty_nil, cond_true, cond_false, Option.isNone_some, Option.isNone_none, Bool.not_true, Bool.not_false, decide_true, decide_false, beq_self_eq_true, bne_self_eq_false, Int.reduceBEq, Int.reduceBNe, Int.cast_ofNat_Int, t, Nat.zero_add, ldP_at gh, ldI_at gS, hgt] at hE
    have hE1 := p22_1_eq C prog.meth (some (h, 0)) M
    have hcnt := H.cnt g
    have hne : h ≠ x.s := (H.two (M' := M) hi hc hx (Mem.But.refl _ _)).2.2.2.2
    have hsz := hp.sz
    obtain ⟨di, c1, _, c2⟩ := PData_C hp
    obtain ⟨M1, s', c3, u1, k0, q1, hs'⟩ := smade_C c2 (by omega)
    have gS2 := u1.get gS
    have gh2 := u1.get gh
    have hw : IntKind.wrap .i64 (((cur.count (some g) : Nat) : Int) - 1) = ((cur.count (some g) - 1 : Nat) : Int) := by rw [wrap_i64 (by omega) (by omega)]; omega
    obtain ⟨M2, s1, k1, m1, b1⟩ := st_at (i := 1) (vs := [.int .i64 ((cur.count (some g) - 1 : Nat) : Int)]) gS2 (by simp)
    obtain ⟨M3, s2, k2, m2, b2⟩ := st_at (i := 1) (vs := [.ptr (some (s', 0))]) (b1.get gh2 hne) (by simp)
    have k2' : M3.get h = some ⟨[.bool true, .ptr (some (s', 0))], .fixed⟩ := k2
    simp only [Option.bind_some, List.getElem?_cons_zero, List.getElem?_cons_succ, int?_int, AVal.bool?, AVal.ptr?, AVal.sl?, AVal.tup?, AVal.agg?, AVal.ifc?, AVal.fn?, AVal.str?, List.head?_cons, List.tail_cons, List.isEmpty_nil, cond_true, cond_false, Option.isNone_some, Option.isNone_none, Bool.not_true, Bool.not_false, decide_true, decide_false, beq_self_eq_true, bne_self_eq_false, Int.reduceBEq, Int.reduceBNe, Int.cast_ofNat_Int, Nat.zero_add, ldP_at gh, ldP_at gS, c1, c3, ldP_at gh2, ldI_at gS2, hw, s1, s2] at hE1
    have bb1 : Mem.But (fun o => o = h ∨ o = x.s) M1 M3 := (b1.mono (fun o ho => Or.inr ho)).trans b2 (fun o _ ho => Or.inl ho)
    have bb : Mem.But (fun o => o = h ∨ o = x.s) M M3 := (u1.but _).trans bb1 (fun _ _ h => h)
    have hhl := Mem.get_lt gh
    have hxl := Mem.get_lt gS
    have k3 : M3.get s' = some ⟨[.ptr (some (M.n, 0)), .int .i64 1], .fixed⟩ := bb1.get k0 (by omega)
    have hl1 := q1.lt
    have q3 : IsP M3 M.n (M.n + 1) d.B 64 64 0 := q1.same (bb1.2 _ hl1.1 (by omega)) (bb1.2 _ hl1.2 (by omega))
    have hE2 := p22_2_eq C prog.meth (some (h, 0)) M3
    simp only [Option.bind_some, List.getElem?_cons_zero, List.getElem?_cons_succ, int?_int, AVal.bool?, AVal.ptr?, AVal.sl?, AVal.tup?, AVal.agg?, AVal.ifc?, AVal.fn?, AVal.str?, List.head?_cons, List.tail_cons, List.isEmpty_nil, cond_true, cond_false, Option.isNone_some, Option.isNone_none, Bool.not_true, Bool.not_false, decide_true, decide_false, beq_self_eq_true, bne_self_eq_false, Int.reduceBEq, Int.reduceBNe, Int.cast_ofNat_Int, Nat.zero_add, ldP_at k2', ldP_at k3] at hE2
    obtain ⟨role', H', F⟩ := H.part hi hc hx (y := ⟨s', M.n, [M.n + 1]⟩) (e := ⟨d.B, 64, 64, 0⟩) bb (by show M.n ≤ s'; omega) (Nat.le_refl _) (fun o ho => by simp at ho; omega) (by show s' ≠ M.n; omega) (by show s' ∉ [M.n + 1]; simp; omega) k2' rfl (b2.get k1 hne.symm) k3 ⟨M.n + 1, rfl, q3⟩
    rw [hld] at H'
    exact ⟨M3, role', _, _, c22 (hE.trans (hE1.trans hE2)), H', F, by rw [← hld]; simp; rfl⟩
  · rw [if_neg h1, if_neg h1, if_neg h1]
    have hgt : ¬ (((cur.count (some g) : Nat) : Int) > 1) := by omega
    simp only [Option.bind_some, List.getElem?_cons_zero, List.getElem?_cons_succ, int?_int, AVal.bool?, AVal.ptr?, AVal.sl?, AVal.tup?, AVal.agg?, AVal.ifc?, AVal.fn?, AVal.str?, List.head?_cons, List.tail_cons, List.isEmpty_nil, cond_true, cond_false, Option.isNone_some, Option.isNone_none, Bool.not_true, Bool.not_false, decide_true, decide_false, beq_self_eq_true, bne_self_eq_false, Int.reduceBEq, Int.reduceBNe, Int.cast_ofNat_Int, t, Nat.zero_add, ldP_at gh, ldI_at gS, hgt] at hE
    have hE2 := p22_2_eq C prog.meth (some (h, 0)) M
    simp only [Option.bind_some, List.getElem?_cons_zero, List.getElem?_cons_succ, int?_int, AVal.bool?, AVal.ptr?, AVal.sl?, AVal.tup?, AVal.agg?, AVal.ifc?, AVal.fn?, AVal.str?, List.head?_cons, List.tail_cons, List.isEmpty_nil, cond_true, cond_false, Option.isNone_some, Option.isNone_none, Bool.not_true, Bool.not_false, decide_true, decide_false, beq_self_eq_true, bne_self_eq_false, Int.reduceBEq, Int.reduceBNe, Int.cast_ofNat_Int, Nat.zero_add, ldP_at gh, ldP_at gS] at hE2
    exact ⟨M, role, gs, x, c22 (hE.trans hE2), H, Fj.refl _ _ _, hx⟩
theorem I_load (H : GS false KI M0 M role hs cur gs ds) (hi : hs[i]? = some h) (hc : cur[i]? = some (some g)) (hd : ds[g]? = some d) (at_ size : Int) :
    (askE d.B.length at_ size ≠ 0 ∧ C 23 [.ptr (some (h, 0)), .int .i64 at_, .int .i64 size] M = some (.tup [.int .u64 0, .int .i64 (askE d.B.length at_ size)], M)) ∨
    (askE d.B.length at_ size = 0 ∧ C 23 [.ptr (some (h, 0)), .int .i64 at_, .int .i64 size] M = some (.tup [.int .u64 (((d.B.drop at_.toNat).take size.toNat).foldl ldF 0), .int .i64 0], M)) := by
  have hE := p23_0_eq C prog.meth (some (h, 0)) at_ size M
  obtain ⟨x, d', hx, hd'⟩ := H.at hc
  rw [hd] at hd'; cases hd'
  obtain ⟨o, ho, hp, gh, gS, t⟩ := I_rd H hi hc hx hd
  rcases PLoad_C hp at_ size with ⟨e, c1⟩ | ⟨e, c1⟩
  · simp only [Option.bind_some, List.getElem?_cons_zero, List.getElem?_cons_succ, int?_int, AVal.bool?, AVal.ptr?, AVal.sl?, AVal.tup?, AVal.agg?, AVal.ifc?, AVal.fn?, AVal.str?, List.head?_cons, List.tail_cons, List.isEmpty_nil, cond_true, cond_false, Option.isNone_some, Option.isNone_none, Bool.not_true, Bool.not_false, decide_true, decide_false, beq_self_eq_true, bne_self_eq_false, Int.reduceBEq, Int.reduceBNe, Int.cast_ofNat_Int, t, Nat.zero_add, ldP_at gh, ldP_at gS, c1] at hE
    exact .inl ⟨e, c23 hE⟩
  · simp only [Option.bind_some, List.getElem?_cons_zero, List.getElem?_cons_succ, int?_int, AVal.bool?, AVal.ptr?, AVal.sl?, AVal.tup?, AVal.agg?, AVal.ifc?, AVal.fn?, AVal.str?, List.head?_cons, List.tail_cons, List.isEmpty_nil, cond_true, cond_false, Option.isNone_some, Option.isNone_none, Bool.not_true, Bool.not_false, decide_true, decide_false, beq_self_eq_true, bne_self_eq_false, Int.reduceBEq, Int.reduceBNe, Int.cast_ofNat_Int, t, Nat.zero_add, ldP_at gh, ldP_at gS, c1] at hE
    exact .inr ⟨e, c23 hE⟩
theorem I_load0 (H : GS false KI M0 M role hs cur gs ds) (hi : hs[i]? = some h) (hc : cur[i]? = some none) (at_ size : Int) : C 23 [.ptr (some (h, 0)), .int .i64 at_, .int .i64 size] M = some (.tup [.int .u64 0, .int .i64 40], M) := by
  have hE := p23_0_eq C prog.meth (some (h, 0)) at_ size M
  simp only [Option.bind_some, List.getElem?_cons_zero, List.getElem?_cons_succ, int?_int, AVal.bool?, AVal.ptr?, AVal.sl?, AVal.tup?, AVal.agg?, AVal.ifc?, AVal.fn?, AVal.str?, List.head?_cons, List.tail_cons, List.isEmpty_nil, cond_true, cond_false, Option.isNone_some, Option.isNone_none, Bool.not_true, Bool.not_false, decide_true, decide_false, beq_self_eq_true, bne_self_eq_false, Int.reduceBEq, Int.reduceBNe, Int.cast_ofNat_Int, I_gone H hi hc] at hE
  exact c23 hE
theorem I_store (H : GS false KI M0 M role hs cur gs ds) (hi : hs[i]? = some h) (hc : cur[i]? = some (some g)) (hd : ds[g]? = some d) (at_ size v : Int) :
    (askE d.B.length at_ size ≠ 0 ∧ C 12 [.ptr (some (h, 0)), .int .i64 at_, .int .i64 size, .int .u64 v] M = some (.int .i64 (askE d.B.length at_ size), M)) ∨
    (askE d.B.length at_ size = 0 ∧ ∃ M' role' gs', C 12 [.ptr (some (h, 0)), .int .i64 at_, .int .i64 size, .int .u64 v] M = some (.int .i64 0, M') ∧ GS false KI M0 M' role' hs (oC cur ds.length i g) gs' ((oD cur ds g d).set (oG cur ds.length g) ⟨storeB d.B at_ size v, (oE cur g d).a, (oE cur g d).t, (oE cur g d).mv⟩) ∧ Fj false role role' M M') := by
  have hE := p12_0_eq C prog.meth (some (h, 0)) at_ size v M
  rcases I_load H hi hc hd at_ size with ⟨e, c1⟩ | ⟨e, c1⟩
  · have : (askE d.B.length at_ size != 0) = true := by simp [e]
    simp only [Option.bind_some, List.getElem?_cons_zero, List.getElem?_cons_succ, int?_int, AVal.bool?, AVal.ptr?, AVal.sl?, AVal.tup?, AVal.agg?, AVal.ifc?, AVal.fn?, AVal.str?, List.head?_cons, List.tail_cons, List.isEmpty_nil, cond_true, cond_false, Option.isNone_some, Option.isNone_none, Bool.not_true, Bool.not_false, decide_true, decide_false, beq_self_eq_true, bne_self_eq_false, Int.reduceBEq, Int.reduceBNe, Int.cast_ofNat_Int, c1, this] at hE
    exact .inl ⟨e, c12 hE⟩
  · simp only [Option.bind_some, List.getElem?_cons_zero, List.getElem?_cons_succ, int?_int, AVal.bool?, AVal.ptr?, AVal.sl?, AVal.tup?, AVal.agg?, AVal.ifc?, AVal.fn?, AVal.str?, List.head?_cons, List.tail_cons, List.isEmpty_nil, cond_true, cond_false, Option.isNone_some, Option.isNone_none, Bool.not_true, Bool.not_false, decide_true, decide_false, beq_self_eq_true, bne_self_eq_false, Int.reduceBEq, Int.reduceBNe, Int.cast_ofNat_Int, c1] at hE
    obtain ⟨M1, role1, gs1, x1, c2, H1, F1, hx1⟩ := I_own H hi hc hd
    have hd1 := o_dat (cur := cur) hd
    obtain ⟨o1, ho1, hp1, _⟩ := I_rd H1 hi (o_cur hc) hx1 hd1
    have hB := oE_B cur g d
    rcases PStore_C hp1 at_ size v with ⟨e', _⟩ | ⟨_, M2, c3, q, n2, b2⟩
    · rw [hB] at e'; exact absurd e e'
    · simp only [Option.bind_some, List.getElem?_cons_zero, List.getElem?_cons_succ, int?_int, AVal.bool?, AVal.ptr?, AVal.sl?, AVal.tup?, AVal.agg?, AVal.ifc?, AVal.fn?, AVal.str?, List.head?_cons, List.tail_cons, List.isEmpty_nil, cond_true, cond_false, Option.isNone_some, Option.isNone_none, Bool.not_true, Bool.not_false, decide_true, decide_false, beq_self_eq_true, bne_self_eq_false, Int.reduceBEq, Int.reduceBNe, Int.cast_ofNat_Int, c2, c3] at hE
      obtain ⟨role2, H2, F2⟩ := H1.write hx1 hd1 (fp' := [o1]) (e := ⟨storeB d.B at_ size v, (oE cur g d).a, (oE cur g d).t, (oE cur g d).mv⟩) (b2.mono (fun y hy => .inr (by rw [ho1]; simpa using hy))) (fun y hy => .inl (by rw [ho1]; exact hy)) ⟨o1, rfl, by rw [hB] at q; exact q⟩
      exact .inr ⟨e, M2, role2, _, c12 hE, H2, F1.trans F2⟩
theorem I_store0 (H : GS false KI M0 M role hs cur gs ds) (hi : hs[i]? = some h) (hc : cur[i]? = some none) (at_ size v : Int) : C 12 [.ptr (some (h, 0)), .int .i64 at_, .int .i64 size, .int .u64 v] M = some (.int .i64 40, M) := by
  have hE := p12_0_eq C prog.meth (some (h, 0)) at_ size v M
  simp only [Option.bind_some, List.getElem?_cons_zero, List.getElem?_cons_succ, int?_int, AVal.bool?, AVal.ptr?, AVal.sl?, AVal.tup?, AVal.agg?, AVal.ifc?, AVal.fn?, AVal.str?, List.head?_cons, List.tail_cons, List.isEmpty_nil, cond_true, cond_false, Option.isNone_some, Option.isNone_none, Bool.not_true, Bool.not_false, decide_true, decide_false, beq_self_eq_true, bne_self_eq_false, Int.reduceBEq, Int.reduceBNe, Int.cast_ofNat_Int, I_load0 H hi hc at_ size] at hE
  exact c12 hE
theorem I_new (H : GS false KI M0 M role hs cur gs ds) (hf : cur.length < 1000) {ba : Option (Nat × Nat)} {bl : Nat} {bc : Cap} {xs : List Int} (hx : M.ints .u8 ba bl bc = some xs) (h1 : bl ≤ 2048) :
    ∃ M' h' x' role', C 8 [.sl ba bl bc] M = some (.tup [.ptr (some (h', 0)), .int .i64 0], M') ∧ M.Upto M' ∧ GS false KI M0 M' role' (hs ++ [h']) (cur ++ [some ds.length]) (gs ++ [x']) (ds ++ [⟨xs, 64, 64, 0⟩]) ∧ Fj false role role' M M' := by
  have hE := p8_0_eq C prog.meth ba bl bc M
  have hld := H.lend
  obtain ⟨M1, s, c1, u1, k1, q1, hs'⟩ := smade_C hx h1
  obtain ⟨M2, e2, k2, u2, n2⟩ := alloc_at M1 ⟨[.bool true, .ptr (some (s, 0))], .fixed⟩
  simp only [Option.bind_some, List.getElem?_cons_zero, List.getElem?_cons_succ, int?_int, AVal.bool?, AVal.ptr?, AVal.sl?, AVal.tup?, AVal.agg?, AVal.ifc?, AVal.fn?, AVal.str?, List.head?_cons, List.tail_cons, List.isEmpty_nil, cond_true, cond_false, Option.isNone_some, Option.isNone_none, Bool.not_true, Bool.not_false, decide_true, decide_false, beq_self_eq_true, bne_self_eq_false, Int.reduceBEq, Int.reduceBNe, Int.cast_ofNat_Int, c1, e2] at hE
  have hsl := Mem.get_lt k1
  have hl1 := q1.lt
  obtain ⟨role', H', F⟩ := H.new (u1.trans u2) hf (h' := M1.n) (y := ⟨s, M.n, [M.n + 1]⟩) (e := ⟨xs, 64, 64, 0⟩) (by omega) (by show M.n ≤ s; omega) (Nat.le_refl _) (fun o ho => by simp at ho; omega) (by show s ≠ M.n; omega) (by show s ∉ [M.n + 1]; simp; omega) (by show M1.n ≠ s; omega) (by show M1.n ≠ M.n; omega) (by show M1.n ∉ [M.n + 1]; simp; omega) k2 rfl (u2.get k1) ⟨M.n + 1, rfl, q1.upto u2⟩
  rw [hld] at H'
  exact ⟨M2, M1.n, _, role', c8 hE, u1.trans u2, H', F⟩
theorem I_new0 {ba : Option (Nat × Nat)} {bl : Nat} {bc : Cap} (h1 : ¬ bl ≤ 2048) : C 8 [.sl ba bl bc] M = some (.tup [.ptr none, .int .i64 5], M) := by
  have hE := p8_0_eq C prog.meth ba bl bc M
  have hE1 := p25_0_eq C prog.meth ba bl bc M
  have hE2 := p47_0_eq C prog.meth ba bl bc 64 64 M
  have e1 : (bl : Int) > 2048 := by omega
  simp only [Option.bind_some, List.getElem?_cons_zero, List.getElem?_cons_succ, int?_int, AVal.bool?, AVal.ptr?, AVal.sl?, AVal.tup?, AVal.agg?, AVal.ifc?, AVal.fn?, AVal.str?, List.head?_cons, List.tail_cons, List.isEmpty_nil, cond_true, cond_false, Option.isNone_some, Option.isNone_none, Bool.not_true, Bool.not_false, decide_true, decide_false, beq_self_eq_true, bne_self_eq_false, Int.reduceBEq, Int.reduceBNe, Int.cast_ofNat_Int, e1] at hE2
  simp only [Option.bind_some, List.getElem?_cons_zero, List.getElem?_cons_succ, int?_int, AVal.bool?, AVal.ptr?, AVal.sl?, AVal.tup?, AVal.agg?, AVal.ifc?, AVal.fn?, AVal.str?, List.head?_cons, List.tail_cons, List.isEmpty_nil, cond_true, cond_false, Option.isNone_some, Option.isNone_none, Bool.not_true, Bool.not_false, decide_true, decide_false, beq_self_eq_true, bne_self_eq_false, Int.reduceBEq, Int.reduceBNe, Int.cast_ofNat_Int, c47 hE2] at hE1
  simp only [Option.bind_some, List.getElem?_cons_zero, List.getElem?_cons_succ, int?_int, AVal.bool?, AVal.ptr?, AVal.sl?, AVal.tup?, AVal.agg?, AVal.ifc?, AVal.fn?, AVal.str?, List.head?_cons, List.tail_cons, List.isEmpty_nil, cond_true, cond_false, Option.isNone_some, Option.isNone_none, Bool.not_true, Bool.not_false, decide_true, decide_false, beq_self_eq_true, bne_self_eq_false, Int.reduceBEq, Int.reduceBNe, Int.cast_ofNat_Int, c25 hE1] at hE
  exact c8 hE
end
end Go.Proofs.Ytfdlmneofbcpnaa.M
namespace Go.Proofs.Ytfdlmneofbcpnaa.M
open Go.Abs

section
variable {M0 M : Mem} {role : Nat → Rj} {hs : List Nat} {cur : List (Option Nat)} {gs : List Gp} {ds : List Dt} {i h g : Nat} {x : Gp} {d : Dt}
theorem R_rd (H : GS true KR M0 M role hs cur gs ds) (hi : hs[i]? = some h) (hc : cur[i]? = some (some g)) (hx : gs[g]? = some x) (hd : ds[g]? = some d) : ∃ v : SlV, x.fp = fpS v ∧ IsRP M x.p v d.B d.a d.t d.mv ∧ M.get h = some ⟨[.ptr (some (x.s, 0)), .bool false], .fixed⟩ ∧ M.get x.s = some ⟨[.ptr (some (x.p, 0)), .int .i64 ((cur.count (some g) : Nat) : Int)], .fixed⟩ := by
  obtain ⟨⟨cells, q1, q, q2, q3⟩, _⟩ := H.hand i h _ hi hc
  obtain ⟨g1, ⟨v, ho, hp⟩, _⟩ := H.grp g x d hx hd
  simp only [Option.bind_some, hx, Option.map_some, Option.isNone_some] at q2 q3
  rw [q2, q3 _ rfl] at q1
  exact ⟨v, ho, hp, q1, g1⟩
theorem R_gone (H : GS true KR M0 M role hs cur gs ds) (hi : hs[i]? = some h) (hc : cur[i]? = some none) : ∃ q, M.get h = some ⟨[.ptr q, .bool true], .fixed⟩ := by
  obtain ⟨⟨cells, q1, q, q2, q3⟩, _⟩ := H.hand i h _ hi hc
  simp only [Option.bind_none, Option.isNone_none] at q2
  rw [q2] at q1
  exact ⟨q, q1⟩
theorem R_free (H : GS true KR M0 M role hs cur gs ds) (hi : hs[i]? = some h) (hc : cur[i]? = some (some g)) : ∃ M', C 34 [.ptr (some (h, 0))] M = some (.int .i64 0, M') ∧ GS true KR M0 M' role hs (cur.set i none) gs ds ∧ Fj true role role M M' := by
  have hE := p34_0_eq C prog.meth (some (h, 0)) M
  obtain ⟨x, d, hx, hd⟩ := H.at hc
  obtain ⟨o, ho, hp, gh, gS⟩ := R_rd H hi hc hx hd
  have hcnt := H.cnt g
  have hpos := cnt_pos hc
  have hne : h ≠ x.s := (H.two (M' := M) hi hc hx (Mem.But.refl _ _)).2.2.2.2
  have hw : IntKind.wrap .i64 (((cur.count (some g) : Nat) : Int) - 1) = ((cur.count (some g) - 1 : Nat) : Int) := by rw [wrap_i64 (by omega) (by omega)]; omega
  obtain ⟨M1, s1, k1, m1, b1⟩ := st_at (i := 1) (vs := [.int .i64 ((cur.count (some g) - 1 : Nat) : Int)]) gS (by simp)
  obtain ⟨M2, s2, k2, m2, b2⟩ := st_at (i := 1) (vs := [.bool true]) (b1.get gh hne) (by simp)
  simp only [Option.bind_some, List.getElem?_cons_zero, List.getElem?_cons_succ, int?_int, AVal.bool?, AVal.ptr?, AVal.sl?, AVal.tup?, AVal.agg?, AVal.ifc?, AVal.fn?, AVal.str?, List.head?_cons, List.tail_cons, List.isEmpty_nil, cond_true, cond_false, Option.isNone_some, Option.isNone_none, Bool.not_true, Bool.not_false, decide_true, decide_false, beq_self_eq_true, bne_self_eq_false, Int.reduceBEq, Int.reduceBNe, Int.cast_ofNat_Int, Nat.zero_add, ldB_at gh, ldP_at gh, ldI_at gS, hw, s1, s2] at hE
  have bb : Mem.But (fun o => o = h ∨ o = x.s) M M2 := (b1.mono (fun o ho => Or.inr ho)).trans b2 (fun o _ ho => Or.inl ho)
  obtain ⟨H', F⟩ := H.free hi hc hx bb (cells := [.ptr (some (x.s, 0)), .bool true]) k2 ⟨_, rfl, fun s hs => by cases hs⟩ (b2.get k1 hne.symm)
  exact ⟨M2, c34 hE, H', F⟩
theorem R_free0 (H : GS true KR M0 M role hs cur gs ds) (hi : hs[i]? = some h) (hc : cur[i]? = some none) : C 34 [.ptr (some (h, 0))] M = some (.int .i64 40, M) := by
  have hE := p34_0_eq C prog.meth (some (h, 0)) M
  obtain ⟨q, gh⟩ := R_gone H hi hc
  simp only [Option.bind_some, List.getElem?_cons_zero, List.getElem?_cons_succ, int?_int, AVal.bool?, AVal.ptr?, AVal.sl?, AVal.tup?, AVal.agg?, AVal.ifc?, AVal.fn?, AVal.str?, List.head?_cons, List.tail_cons, List.isEmpty_nil, cond_true, cond_false, Option.isNone_some, Option.isNone_none, Bool.not_true, Bool.not_false, decide_true, decide_false, beq_self_eq_true, bne_self_eq_false, Int.reduceBEq, Int.reduceBNe, Int.cast_ofNat_Int, ldB_at gh] at hE
  exact c34 hE
theorem R_clone (H : GS true KR M0 M role hs cur gs ds) (hi : hs[i]? = some h) (hc : cur[i]? = some (some g)) (hf : cur.length < 1000) : ∃ M' h' role', C 33 [.ptr (some (h, 0))] M = some (.tup [.ptr (some (h', 0)), .int .i64 0], M') ∧ GS true KR M0 M' role' (hs ++ [h']) (cur ++ [some g]) gs ds ∧ Fj true role role' M M' := by
  have hE := p33_0_eq C prog.meth (some (h, 0)) M
  obtain ⟨x, d, hx, hd⟩ := H.at hc
  obtain ⟨o, ho, hp, gh, gS⟩ := R_rd H hi hc hx hd
  have hcnt := H.cnt g
  have hne : h ≠ x.s := (H.two (M' := M) hi hc hx (Mem.But.refl _ _)).2.2.2.2
  have hw : IntKind.wrap .i64 (((cur.count (some g) : Nat) : Int) + 1) = ((cur.count (some g) + 1 : Nat) : Int) := by rw [wrap_i64 (by omega) (by omega)]; omega
  obtain ⟨M1, s1, k1, m1, b1⟩ := st_at (i := 1) (vs := [.int .i64 ((cur.count (some g) + 1 : Nat) : Int)]) gS (by simp)
  have gh1 := b1.get gh hne
  obtain ⟨M2, e2, k2, u2, n2⟩ := alloc_at M1 ⟨[.ptr (some (x.s, 0)), .bool false], .fixed⟩
  simp only [Option.bind_some, List.getElem?_cons_zero, List.getElem?_cons_succ, int?_int, AVal.bool?, AVal.ptr?, AVal.sl?, AVal.tup?, AVal.agg?, AVal.ifc?, AVal.fn?, AVal.str?, List.head?_cons, List.tail_cons, List.isEmpty_nil, cond_true, cond_false, Option.isNone_some, Option.isNone_none, Bool.not_true, Bool.not_false, decide_true, decide_false, beq_self_eq_true, bne_self_eq_false, Int.reduceBEq, Int.reduceBNe, Int.cast_ofNat_Int, Nat.zero_add, ldB_at gh, ldP_at gh, ldI_at gS, hw, s1, ldP_at gh1, e2] at hE
  obtain ⟨role', H', F⟩ := H.clone hi hc hx hf (h' := M1.n) (b1.trans (u2.but _) (fun _ _ h => h)) (by omega) k2 ⟨_, rfl, fun s hs => by cases hs; rfl⟩ (u2.get k1)
  exact ⟨M2, M1.n, role', c33 hE, H', F⟩
theorem R_clone0 (H : GS true KR M0 M role hs cur gs ds) (hi : hs[i]? = some h) (hc : cur[i]? = some none) : C 33 [.ptr (some (h, 0))] M = some (.tup [.ptr none, .int .i64 40], M) := by
  have hE := p33_0_eq C prog.meth (some (h, 0)) M
  obtain ⟨q, gh⟩ := R_gone H hi hc
  simp only [Option.bind_some, List.getElem?_cons_zero, List.getElem?_cons_succ, int?_int, AVal.bool?, AVal.ptr?, AVal.sl?, AVal.tup?, AVal.agg?, AVal.ifc?, AVal.fn?, AVal.str?, List.head?_cons, List.tail_cons, List.isEmpty_nil, cond_true, cond_false, Option.isNone_some, Option.isNone_none, Bool.not_true, Bool.not_false, decide_true, decide_false, beq_self_eq_true, bne_self_eq_false, Int.reduceBEq, Int.reduceBNe, Int.cast_ofNat_Int, ldB_at gh] at hE
  exact c33 hE
theorem R_count (H : GS true KR M0 M role hs cur gs ds) (hi : hs[i]? = some h) {c : Option Nat} (hc : cur[i]? = some c) : C 44 [.ptr (some (h, 0))] M = some (.int .i64 ((cntO cur c : Nat) : Int), M) := by
  have hE := p44_0_eq C prog.meth (some (h, 0)) M
  cases c with
  | none =>
    obtain ⟨q, gh⟩ := R_gone H hi hc
    simp only [Option.bind_some, List.getElem?_cons_zero, List.getElem?_cons_succ, int?_int, AVal.bool?, AVal.ptr?, AVal.sl?, AVal.tup?, AVal.agg?, AVal.ifc?, AVal.fn?, AVal.str?, List.head?_cons, List.tail_cons, List.isEmpty_nil, cond_true, cond_false, Option.isNone_some, Option.isNone_none, Bool.not_true, Bool.not_false, decide_true, decide_false, beq_self_eq_true, bne_self_eq_false, Int.reduceBEq, Int.reduceBNe, Int.cast_ofNat_Int, ldB_at gh] at hE
    exact c44 hE
  | some g =>
    obtain ⟨x, d, hx, hd⟩ := H.at hc
    obtain ⟨o, ho, hp, gh, gS⟩ := R_rd H hi hc hx hd
    simp only [Option.bind_some, List.getElem?_cons_zero, List.getElem?_cons_succ, int?_int, AVal.bool?, AVal.ptr?, AVal.sl?, AVal.tup?, AVal.agg?, AVal.ifc?, AVal.fn?, AVal.str?, List.head?_cons, List.tail_cons, List.isEmpty_nil, cond_true, cond_false, Option.isNone_some, Option.isNone_none, Bool.not_true, Bool.not_false, decide_true, decide_false, beq_self_eq_true, bne_self_eq_false, Int.reduceBEq, Int.reduceBNe, Int.cast_ofNat_Int, Nat.zero_add, ldB_at gh, ldP_at gh, ldI_at gS] at hE
    exact c44 hE
theorem R_len (H : GS true KR M0 M role hs cur gs ds) (hi : hs[i]? = some h) {c : Option Nat} (hc : cur[i]? = some c) : C 43 [.ptr (some (h, 0))] M = some (.int .i64 ((bytesO ds c).length : Int), M) := by
  have hE := p43_0_eq C prog.meth (some (h, 0)) M
  cases c with
  | none =>
    obtain ⟨q, gh⟩ := R_gone H hi hc
    simp only [Option.bind_some, List.getElem?_cons_zero, List.getElem?_cons_succ, int?_int, AVal.bool?, AVal.ptr?, AVal.sl?, AVal.tup?, AVal.agg?, AVal.ifc?, AVal.fn?, AVal.str?, List.head?_cons, List.tail_cons, List.isEmpty_nil, cond_true, cond_false, Option.isNone_some, Option.isNone_none, Bool.not_true, Bool.not_false, decide_true, decide_false, beq_self_eq_true, bne_self_eq_false, Int.reduceBEq, Int.reduceBNe, Int.cast_ofNat_Int, ldB_at gh] at hE
    exact c43 hE
  | some g =>
    obtain ⟨x, d, hx, hd⟩ := H.at hc
    obtain ⟨v, ho, hp, gh, gS⟩ := R_rd H hi hc hx hd
    have hE1 := p59_0_eq C prog.meth (some (x.p, 0)) M
    simp only [Option.bind_some, List.getElem?_cons_zero, List.getElem?_cons_succ, int?_int, AVal.bool?, AVal.ptr?, AVal.sl?, AVal.tup?, AVal.agg?, AVal.ifc?, AVal.fn?, AVal.str?, List.head?_cons, List.tail_cons, List.isEmpty_nil, cond_true, cond_false, Option.isNone_some, Option.isNone_none, Bool.not_true, Bool.not_false, decide_true, decide_false, beq_self_eq_true, bne_self_eq_false, Int.reduceBEq, Int.reduceBNe, Int.cast_ofNat_Int, Nat.zero_add, hp.ld.1, ← hp.bs.len] at hE1
    simp only [Option.bind_some, List.getElem?_cons_zero, List.getElem?_cons_succ, int?_int, AVal.bool?, AVal.ptr?, AVal.sl?, AVal.tup?, AVal.agg?, AVal.ifc?, AVal.fn?, AVal.str?, List.head?_cons, List.tail_cons, List.isEmpty_nil, cond_true, cond_false, Option.isNone_some, Option.isNone_none, Bool.not_true, Bool.not_false, decide_true, decide_false, beq_self_eq_true, bne_self_eq_false, Int.reduceBEq, Int.reduceBNe, Int.cast_ofNat_Int, Nat.zero_add, ldB_at gh, ldP_at gh, ldP_at gS, c59 hE1] at hE
    simp only [bytesO, hd]
    exact c43 hE
theorem R_bytes (H : GS true KR M0 M role hs cur gs ds) (hi : hs[i]? = some h) {c : Option Nat} (hc : cur[i]? = some c) : ∃ M' v, C 42 [.ptr (some (h, 0))] M = some (.sl v.1 v.2.1 v.2.2, M') ∧ M.Upto M' ∧ Own1 M' v (bytesO ds c) ∧ (∀ o ∈ fpS v, M.n ≤ o) := by
  have hE := p42_0_eq C prog.meth (some (h, 0)) M
  cases c with
  | none =>
    obtain ⟨q, gh⟩ := R_gone H hi hc
    simp only [Option.bind_some, List.getElem?_cons_zero, List.getElem?_cons_succ, int?_int, AVal.bool?, AVal.ptr?, AVal.sl?, AVal.tup?, AVal.agg?, AVal.ifc?, AVal.fn?, AVal.str?, List.head?_cons, List.tail_cons, List.isEmpty_nil, cond_true, cond_false, Option.isNone_some, Option.isNone_none, Bool.not_true, Bool.not_false, decide_true, decide_false, beq_self_eq_true, bne_self_eq_false, Int.reduceBEq, Int.reduceBNe, Int.cast_ofNat_Int, ldB_at gh] at hE
    exact ⟨M, (none, 0, .known 0), c42 hE, Mem.Upto.refl M, ⟨rfl, fun h => by simp at h⟩, by simp [fpS]⟩
  | some g =>
    obtain ⟨x, d, hx, hd⟩ := H.at hc
    obtain ⟨v, ho, hp, gh, gS⟩ := R_rd H hi hc hx hd
    have hsz := hp.sz
    have hbl := hp.bs.len
    obtain ⟨M', w, c1, u1, o1, f1⟩ := CopyBytes_O hp.bs.bytes (by omega)
    have hE1 := p58_0_eq C prog.meth (some (x.p, 0)) M
    simp only [Option.bind_some, List.getElem?_cons_zero, List.getElem?_cons_succ, int?_int, AVal.bool?, AVal.ptr?, AVal.sl?, AVal.tup?, AVal.agg?, AVal.ifc?, AVal.fn?, AVal.str?, List.head?_cons, List.tail_cons, List.isEmpty_nil, cond_true, cond_false, Option.isNone_some, Option.isNone_none, Bool.not_true, Bool.not_false, decide_true, decide_false, beq_self_eq_true, bne_self_eq_false, Int.reduceBEq, Int.reduceBNe, Int.cast_ofNat_Int, Nat.zero_add, hp.ld.1, c1] at hE1
    simp only [Option.bind_some, List.getElem?_cons_zero, List.getElem?_cons_succ, int?_int, AVal.bool?, AVal.ptr?, AVal.sl?, AVal.tup?, AVal.agg?, AVal.ifc?, AVal.fn?, AVal.str?, List.head?_cons, List.tail_cons, List.isEmpty_nil, cond_true, cond_false, Option.isNone_some, Option.isNone_none, Bool.not_true, Bool.not_false, decide_true, decide_false, beq_self_eq_true, bne_self_eq_false, Int.reduceBEq, Int.reduceBNe, Int.cast_ofNat_Int, Nat.zero_add, ldB_at gh, ldP_at gh, ldP_at gS, c58 hE1] at hE
    simp only [bytesO, hd]
    exact ⟨M', w, c42 hE, u1, o1, f1⟩
theorem R_part (H : GS true KR M0 M role hs cur gs ds) (hi : hs[i]? = some h) (hc : cur[i]? = some (some g)) (hd : ds[g]? = some d) : ∃ M' role' gs' x', C 55 [.ptr (some (h, 0))] M = some (.tup [], M') ∧ GS true KR M0 M' role' hs (oC cur ds.length i g) gs' (oD cur ds g d) ∧ Fj true role role' M M' ∧ gs'[oG cur ds.length g]? = some x' := by
  have hE := p55_0_eq C prog.meth (some (h, 0)) M
  obtain ⟨x, d', hx, hd'⟩ := H.at hc
  rw [hd] at hd'; cases hd'
  obtain ⟨v, ho, hp, gh, gS⟩ := R_rd H hi hc hx hd
  have hld := H.lend
  have hpos := cnt_pos hc
  unfold oC oD oG
  by_cases h1 : 1 < cur.count (some g)
  · rw [if_pos h1, if_pos h1, if_pos h1]
    have hgt : (((cur.count (some g) : Nat) : Int) == 1) = false := by simp; omega
    have hcnt := H.cnt g
    have hne : h ≠ x.s := (H.two (M' := M) hi hc hx (Mem.But.refl _ _)).2.2.2.2
    have hsz := hp.sz
    have hbl := hp.bs.len
    have hw : IntKind.wrap .i64 (((cur.count (some g) : Nat) : Int) - 1) = ((cur.count (some g) - 1 : Nat) : Int) := by rw [wrap_i64 (by omega) (by omega)]; omega
    obtain ⟨M1, s1, k1, m1, b1⟩ := st_at (i := 1) (vs := [.int .i64 ((cur.count (some g) - 1 : Nat) : Int)]) gS (by simp)
    have k1' : M1.get x.s = some ⟨[.ptr (some (x.p, 0)), .int .i64 ((cur.count (some g) - 1 : Nat) : Int)], .fixed⟩ := k1
    have gh1 := b1.get gh hne
    have hb0 : Mem.But (fun o => o = h ∨ o = x.s) M M1 := b1.mono (fun o ho => Or.inr ho)
    have hp1 : IsRP M1 x.p v d.B d.a d.t d.mv := by
      obtain ⟨_, r1, r2, r3, r4, _⟩ := H.grp g x d hx hd
      refine hp.same (b1.2 _ hp.lt.1 (fun e => by rw [e, r2] at r3; cases r3)) (fun o ho' => b1.2 o (hp.lt.2 o ho') (fun e => ?_))
      have := r4 o (by rw [ho]; exact ho')
      rw [e, r2] at this; cases this
    obtain ⟨M2, m, w, c1, u2, q2, n2, f2⟩ := RPNew_C (hd := 64) (tl := 64) hp1.bs.bytes (by omega) (by omega) (by omega)
    have c1' : C 53 [.sl v.1 v.2.1 v.2.2, .int .i64 64, .int .i64 64] M1 = some (.tup [.ptr (some (m, 0)), .int .i64 0], M2) := c1
    obtain ⟨M3, e3, k3, u3, n3⟩ := alloc_at M2 ⟨[.ptr (some (m, 0)), .int .i64 1], .fixed⟩
    have gh3 := u3.get (u2.get gh1)
    obtain ⟨M4, s4, k4, m4, b4⟩ := st_at (i := 0) (vs := [.ptr (some (M2.n, 0))]) gh3 (by simp)
    have k4' : M4.get h = some ⟨[.ptr (some (M2.n, 0)), .bool false], .fixed⟩ := k4
    simp only [Option.bind_some, List.getElem?_cons_zero, List.getElem?_cons_succ, int?_int, AVal.bool?, AVal.ptr?, AVal.sl?, AVal.tup?, AVal.agg?, AVal.ifc?, AVal.fn?, AVal.str?, List.head?_cons, List.tail_cons, List.isEmpty_nil, cond_true, cond_false, Option.isNone_some, Option.isNone_none, Bool.not_true, Bool.not_false, decide_true, decide_false, beq_self_eq_true, bne_self_eq_false, Int.reduceBEq, Int.reduceBNe, Int.cast_ofNat_Int, Nat.zero_add, ldP_at gh, ldI_at gS, hgt, hw, s1, ldP_at gh1, ldP_at k1', hp1.ld.1, c1', e3, s4] at hE
    have bb : Mem.But (fun o => o = h ∨ o = x.s) M M4 := ((hb0.trans (u2.but _) (fun _ _ h => h)).trans (u3.but _) (fun _ _ h => h)).trans b4 (fun o _ ho => Or.inl ho)
    have hhl := Mem.get_lt gh
    have hxl := Mem.get_lt gS
    have hql := q2.lt
    have hu2 := u2.1
    have q4 : IsRP M4 m w d.B 64 64 0 := (q2.upto u3).same (b4.2 _ (by omega) (by omega)) (fun o ho => b4.2 o (by have := hql.2 o ho; omega) (by have := f2 o ho; omega))
    have z1 : M.n ≤ M2.n := by omega
    have z6 : M2.n ≠ h := by omega
    have z2 : M.n ≤ m := by omega
    have z3 : ∀ o ∈ fpS w, M.n ≤ o := fun o ho => by
      have := f2 o ho
      omega
    have z4 : M2.n ≠ m := by have := hql.1; omega
    have z5 : M2.n ∉ fpS w := fun hm => by
      have := hql.2 _ hm
      omega
    obtain ⟨role', H', F⟩ := H.part hi hc hx (y := ⟨M2.n, m, fpS w⟩) (e := ⟨d.B, 64, 64, 0⟩) bb z1 z2 z3 z4 z5 k4' ⟨_, rfl, fun s hs => by cases hs; rfl⟩ (b4.get (u3.get (u2.get k1')) hne.symm) (b4.get k3 z6) ⟨w, rfl, q4⟩
    rw [hld] at H'
    exact ⟨M4, role', _, _, c55 hE, H', F, by rw [← hld]; simp; rfl⟩
  · rw [if_neg h1, if_neg h1, if_neg h1]
    have hgt : (((cur.count (some g) : Nat) : Int) == 1) = true := by simp; omega
    simp only [Option.bind_some, List.getElem?_cons_zero, List.getElem?_cons_succ, int?_int, AVal.bool?, AVal.ptr?, AVal.sl?, AVal.tup?, AVal.agg?, AVal.ifc?, AVal.fn?, AVal.str?, List.head?_cons, List.tail_cons, List.isEmpty_nil, cond_true, cond_false, Option.isNone_some, Option.isNone_none, Bool.not_true, Bool.not_false, decide_true, decide_false, beq_self_eq_true, bne_self_eq_false, Int.reduceBEq, Int.reduceBNe, Int.cast_ofNat_Int, Nat.zero_add, ldP_at gh, ldI_at gS, hgt] at hE
    exact ⟨M, role, gs, x, c55 hE, H, Fj.refl _ _ _, hx⟩
theorem R_own (H : GS true KR M0 M role hs cur gs ds) (hi : hs[i]? = some h) (hc : cur[i]? = some (some g)) (hd : ds[g]? = some d) : ∃ M' role' gs' x', C 37 [.ptr (some (h, 0))] M = some (.tup [.ptr (some (x'.p, 0)), .int .i64 0], M') ∧ GS true KR M0 M' role' hs (oC cur ds.length i g) gs' (oD cur ds g d) ∧ Fj true role role' M M' ∧ gs'[oG cur ds.length g]? = some x' := by
  have hE := p37_0_eq C prog.meth (some (h, 0)) M
  obtain ⟨x, d', hx, hd'⟩ := H.at hc
  rw [hd] at hd'; cases hd'
  obtain ⟨v, ho, hp, gh, gS⟩ := R_rd H hi hc hx hd
  obtain ⟨M1, role1, gs1, x1, c1, H1, F1, hx1⟩ := R_part H hi hc hd
  obtain ⟨v1, ho1, hp1, gh1, gS1⟩ := R_rd H1 hi (o_cur hc) hx1 (o_dat hd)
  simp only [Option.bind_some, List.getElem?_cons_zero, List.getElem?_cons_succ, int?_int, AVal.bool?, AVal.ptr?, AVal.sl?, AVal.tup?, AVal.agg?, AVal.ifc?, AVal.fn?, AVal.str?, List.head?_cons, List.tail_cons, List.isEmpty_nil, cond_true, cond_false, Option.isNone_some, Option.isNone_none, Bool.not_true, Bool.not_false, decide_true, decide_false, beq_self_eq_true, bne_self_eq_false, Int.reduceBEq, Int.reduceBNe, Int.cast_ofNat_Int, Nat.zero_add, ldB_at gh, c1, ldP_at gh1, ldP_at gS1] at hE
  exact ⟨M1, role1, gs1, x1, c37 hE, H1, F1, hx1⟩
theorem R_own0 (H : GS true KR M0 M role hs cur gs ds) (hi : hs[i]? = some h) (hc : cur[i]? = some none) : C 37 [.ptr (some (h, 0))] M = some (.tup [.ptr none, .int .i64 40], M) := by
  have hE := p37_0_eq C prog.meth (some (h, 0)) M
  obtain ⟨q, gh⟩ := R_gone H hi hc
  simp only [Option.bind_some, List.getElem?_cons_zero, List.getElem?_cons_succ, int?_int, AVal.bool?, AVal.ptr?, AVal.sl?, AVal.tup?, AVal.agg?, AVal.ifc?, AVal.fn?, AVal.str?, List.head?_cons, List.tail_cons, List.isEmpty_nil, cond_true, cond_false, Option.isNone_some, Option.isNone_none, Bool.not_true, Bool.not_false, decide_true, decide_false, beq_self_eq_true, bne_self_eq_false, Int.reduceBEq, Int.reduceBNe, Int.cast_ofNat_Int, ldB_at gh] at hE
  exact c37 hE
theorem R_load (H : GS true KR M0 M role hs cur gs ds) (hi : hs[i]? = some h) (hc : cur[i]? = some (some g)) (hd : ds[g]? = some d) (hwf : wfB d.B) (at_ size : Int) :
    (askE d.B.length at_ size ≠ 0 ∧ C 35 [.ptr (some (h, 0)), .int .i64 at_, .int .i64 size] M = some (.tup [.int .u64 0, .int .i64 (askE d.B.length at_ size)], M)) ∨
    (askE d.B.length at_ size = 0 ∧ C 35 [.ptr (some (h, 0)), .int .i64 at_, .int .i64 size] M = some (.tup [.int .u64 (((d.B.drop at_.toNat).take size.toNat).foldl ldF 0), .int .i64 0], M)) := by
  have hE := p35_0_eq C prog.meth (some (h, 0)) at_ size M
  obtain ⟨x, d', hx, hd'⟩ := H.at hc
  rw [hd] at hd'; cases hd'
  obtain ⟨v, ho, hp, gh, gS⟩ := R_rd H hi hc hx hd
  rcases RLoad_C hp at_ size with ⟨e, c1⟩ | ⟨e, c1⟩
  · simp only [Option.bind_some, List.getElem?_cons_zero, List.getElem?_cons_succ, int?_int, AVal.bool?, AVal.ptr?, AVal.sl?, AVal.tup?, AVal.agg?, AVal.ifc?, AVal.fn?, AVal.str?, List.head?_cons, List.tail_cons, List.isEmpty_nil, cond_true, cond_false, Option.isNone_some, Option.isNone_none, Bool.not_true, Bool.not_false, decide_true, decide_false, beq_self_eq_true, bne_self_eq_false, Int.reduceBEq, Int.reduceBNe, Int.cast_ofNat_Int, Nat.zero_add, ldB_at gh, ldP_at gh, ldP_at gS, c1] at hE
    exact .inl ⟨e, c35 hE⟩
  · rw [← fold_same _ _ (by omega) ((hwf.drop _).take _)] at c1
    simp only [Option.bind_some, List.getElem?_cons_zero, List.getElem?_cons_succ, int?_int, AVal.bool?, AVal.ptr?, AVal.sl?, AVal.tup?, AVal.agg?, AVal.ifc?, AVal.fn?, AVal.str?, List.head?_cons, List.tail_cons, List.isEmpty_nil, cond_true, cond_false, Option.isNone_some, Option.isNone_none, Bool.not_true, Bool.not_false, decide_true, decide_false, beq_self_eq_true, bne_self_eq_false, Int.reduceBEq, Int.reduceBNe, Int.cast_ofNat_Int, Nat.zero_add, ldB_at gh, ldP_at gh, ldP_at gS, c1] at hE
    exact .inr ⟨e, c35 hE⟩
theorem R_load0 (H : GS true KR M0 M role hs cur gs ds) (hi : hs[i]? = some h) (hc : cur[i]? = some none) (at_ size : Int) : C 35 [.ptr (some (h, 0)), .int .i64 at_, .int .i64 size] M = some (.tup [.int .u64 0, .int .i64 40], M) := by
  have hE := p35_0_eq C prog.meth (some (h, 0)) at_ size M
  obtain ⟨q, gh⟩ := R_gone H hi hc
  simp only [Option.bind_some, List.getElem?_cons_zero, List.getElem?_cons_succ, int?_int, AVal.bool?, AVal.ptr?, AVal.sl?, AVal.tup?, AVal.agg?, AVal.ifc?, AVal.fn?, AVal.str?, List.head?_cons, List.tail_cons, List.isEmpty_nil, cond_true, cond_false, Option.isNone_some, Option.isNone_none, Bool.not_true, Bool.not_false, decide_true, decide_false, beq_self_eq_true, bne_self_eq_false, Int.reduceBEq, Int.reduceBNe, Int.cast_ofNat_Int, ldB_at gh] at hE
  exact c35 hE
theorem R_store (H : GS true KR M0 M role hs cur gs ds) (hi : hs[i]? = some h) (hc : cur[i]? = some (some g)) (hd : ds[g]? = some d) (at_ size : Int) {V : Int} (hV : 0 ≤ V ∧ V < 18446744073709551616) :
    (askE d.B.length at_ size ≠ 0 ∧ C 36 [.ptr (some (h, 0)), .int .i64 at_, .int .i64 size, .int .u64 V] M = some (.int .i64 (askE d.B.length at_ size), M)) ∨
    (askE d.B.length at_ size = 0 ∧ ∃ M' role' gs', C 36 [.ptr (some (h, 0)), .int .i64 at_, .int .i64 size, .int .u64 V] M = some (.int .i64 0, M') ∧ GS true KR M0 M' role' hs (oC cur ds.length i g) gs' ((oD cur ds g d).set (oG cur ds.length g) ⟨storeB d.B at_ size V, (oE cur g d).a, (oE cur g d).t, (oE cur g d).mv⟩) ∧ Fj true role role' M M' ∧ storeB d.B at_ size V = stR at_.toNat size.toNat V d.B) := by
  have hE := p36_0_eq C prog.meth (some (h, 0)) at_ size V M
  obtain ⟨x, d', hx, hd'⟩ := H.at hc
  rw [hd] at hd'; cases hd'
  obtain ⟨v, ho, hp, gh, gS⟩ := R_rd H hi hc hx hd
  rcases RLoad_C hp at_ size with ⟨e, c1⟩ | ⟨e, c1⟩
  · have : (askE d.B.length at_ size != 0) = true := by simp [e]
    simp only [Option.bind_some, List.getElem?_cons_zero, List.getElem?_cons_succ, int?_int, AVal.bool?, AVal.ptr?, AVal.sl?, AVal.tup?, AVal.agg?, AVal.ifc?, AVal.fn?, AVal.str?, List.head?_cons, List.tail_cons, List.isEmpty_nil, cond_true, cond_false, Option.isNone_some, Option.isNone_none, Bool.not_true, Bool.not_false, decide_true, decide_false, beq_self_eq_true, bne_self_eq_false, Int.reduceBEq, Int.reduceBNe, Int.cast_ofNat_Int, Nat.zero_add, ldB_at gh, ldP_at gh, ldP_at gS, c1, this] at hE
    exact .inl ⟨e, c36 hE⟩
  · obtain ⟨M1, role1, gs1, x1, c2, H1, F1, hx1⟩ := R_part H hi hc hd
    have hd1 := o_dat (cur := cur) hd
    obtain ⟨v1, ho1, hp1, gh1, gS1⟩ := R_rd H1 hi (o_cur hc) hx1 hd1
    have hB := oE_B cur g d
    rcases RStore_C hp1 at_ size V with ⟨e', _⟩ | ⟨_, M2, c3, q, n2, b2⟩
    · rw [hB] at e'; exact absurd e e'
    · simp only [Option.bind_some, List.getElem?_cons_zero, List.getElem?_cons_succ, int?_int, AVal.bool?, AVal.ptr?, AVal.sl?, AVal.tup?, AVal.agg?, AVal.ifc?, AVal.fn?, AVal.str?, List.head?_cons, List.tail_cons, List.isEmpty_nil, cond_true, cond_false, Option.isNone_some, Option.isNone_none, Bool.not_true, Bool.not_false, decide_true, decide_false, beq_self_eq_true, bne_self_eq_false, Int.reduceBEq, Int.reduceBNe, Int.cast_ofNat_Int, Nat.zero_add, ldB_at gh, ldP_at gh, ldP_at gS, c1, c2, ldP_at gh1, ldP_at gS1, c3] at hE
      have hb := askE_zero e
      have hs : stR at_.toNat size.toNat V d.B = storeB d.B at_ size V := by
        have := stR_storeB (B := d.B) (k := at_.toNat) (n := size.toNat) hV.1 hV.2 (by omega) (by omega)
        rwa [Int.toNat_of_nonneg (by omega), Int.toNat_of_nonneg (by omega)] at this
      rw [hB, hs] at q
      obtain ⟨role2, H2, F2⟩ := H1.write hx1 hd1 (fp' := x1.fp) (e := ⟨storeB d.B at_ size V, (oE cur g d).a, (oE cur g d).t, (oE cur g d).mv⟩) (b2.mono (fun y hy => .inr (by rw [ho1]; exact hy))) (fun y hy => .inl hy) ⟨v1, ho1, q⟩
      exact .inr ⟨e, M2, role2, _, c36 hE, H2, F1.trans F2, hs.symm⟩
theorem R_store0 (H : GS true KR M0 M role hs cur gs ds) (hi : hs[i]? = some h) (hc : cur[i]? = some none) (at_ size v : Int) : C 36 [.ptr (some (h, 0)), .int .i64 at_, .int .i64 size, .int .u64 v] M = some (.int .i64 40, M) := by
  have hE := p36_0_eq C prog.meth (some (h, 0)) at_ size v M
  obtain ⟨q, gh⟩ := R_gone H hi hc
  simp only [Option.bind_some, List.getElem?_cons_zero, List.getElem?_cons_succ, int?_int, AVal.bool?, AVal.ptr?, AVal.sl?, AVal.tup?, AVal.agg?, AVal.ifc?, AVal.fn?, AVal.str?, List.head?_cons, List.tail_cons, List.isEmpty_nil, cond_true, cond_false, Option.isNone_some, Option.isNone_none, Bool.not_true, Bool.not_false, decide_true, decide_false, beq_self_eq_true, bne_self_eq_false, Int.reduceBEq, Int.reduceBNe, Int.cast_ofNat_Int, ldB_at gh] at hE
  exact c36 hE
theorem R_new (H : GS true KR M0 M role hs cur gs ds) (hf : cur.length < 1000) {ba : Option (Nat × Nat)} {bl : Nat} {bc : Cap} {xs : List Int} (hx : M.ints .u8 ba bl bc = some xs) (h1 : bl ≤ 2048) :
    ∃ M' h' x' role', C 32 [.sl ba bl bc] M = some (.tup [.ptr (some (h', 0)), .int .i64 0], M') ∧ M.Upto M' ∧ GS true KR M0 M' role' (hs ++ [h']) (cur ++ [some ds.length]) (gs ++ [x']) (ds ++ [⟨xs, 64, 64, 0⟩]) ∧ Fj true role role' M M' := by
  have hE := p32_0_eq C prog.meth ba bl bc M
  have hld := H.lend
  obtain ⟨M1, m, w, c1, u1, q1, n1, f1⟩ := RPNew_C (hd := 64) (tl := 64) hx h1 (by omega) (by omega)
  have c1' : C 53 [.sl ba bl bc, .int .i64 64, .int .i64 64] M = some (.tup [.ptr (some (m, 0)), .int .i64 0], M1) := c1
  obtain ⟨M2, e2, k2, u2, n2⟩ := alloc_at M1 ⟨[.ptr (some (m, 0)), .int .i64 1], .fixed⟩
  obtain ⟨M3, e3, k3, u3, n3⟩ := alloc_at M2 ⟨[.ptr (some (M1.n, 0)), .bool false], .fixed⟩
  simp only [Option.bind_some, List.getElem?_cons_zero, List.getElem?_cons_succ, int?_int, AVal.bool?, AVal.ptr?, AVal.sl?, AVal.tup?, AVal.agg?, AVal.ifc?, AVal.fn?, AVal.str?, List.head?_cons, List.tail_cons, List.isEmpty_nil, cond_true, cond_false, Option.isNone_some, Option.isNone_none, Bool.not_true, Bool.not_false, decide_true, decide_false, beq_self_eq_true, bne_self_eq_false, Int.reduceBEq, Int.reduceBNe, Int.cast_ofNat_Int, c1', e2, e3] at hE
  have hl1 := q1.lt
  have hu1 := u1.1
  obtain ⟨role', H', F⟩ := H.new ((u1.trans u2).trans u3) hf (h' := M2.n) (y := ⟨M1.n, m, fpS w⟩) (e := ⟨xs, 64, 64, 0⟩) (by omega) (by show M.n ≤ M1.n; omega) n1 (fun o ho => f1 o ho) (by show M1.n ≠ m; omega) (fun hm => by have := hl1.2 _ hm; simp at this) (by show M2.n ≠ M1.n; omega) (by show M2.n ≠ m; omega) (fun hm => by have := hl1.2 _ hm; omega) k3 ⟨_, rfl, fun s hs => by cases hs; rfl⟩ (u3.get k2) ⟨w, rfl, (q1.upto u2).upto u3⟩
  rw [hld] at H'
  exact ⟨M3, M2.n, _, role', c32 hE, (u1.trans u2).trans u3, H', F⟩
theorem R_new0 {ba : Option (Nat × Nat)} {bl : Nat} {bc : Cap} (h1 : ¬ bl ≤ 2048) : C 32 [.sl ba bl bc] M = some (.tup [.ptr none, .int .i64 5], M) := by
  have hE := p32_0_eq C prog.meth ba bl bc M
  have hE2 := p53_0_eq C prog.meth ba bl bc 64 64 M
  have e1 : (bl : Int) > 2048 := by omega
  simp only [Option.bind_some, List.getElem?_cons_zero, List.getElem?_cons_succ, int?_int, AVal.bool?, AVal.ptr?, AVal.sl?, AVal.tup?, AVal.agg?, AVal.ifc?, AVal.fn?, AVal.str?, List.head?_cons, List.tail_cons, List.isEmpty_nil, cond_true, cond_false, Option.isNone_some, Option.isNone_none, Bool.not_true, Bool.not_false, decide_true, decide_false, beq_self_eq_true, bne_self_eq_false, Int.reduceBEq, Int.reduceBNe, Int.cast_ofNat_Int, e1] at hE2
  simp only [Option.bind_some, List.getElem?_cons_zero, List.getElem?_cons_succ, int?_int, AVal.bool?, AVal.ptr?, AVal.sl?, AVal.tup?, AVal.agg?, AVal.ifc?, AVal.fn?, AVal.str?, List.head?_cons, List.tail_cons, List.isEmpty_nil, cond_true, cond_false, Option.isNone_some, Option.isNone_none, Bool.not_true, Bool.not_false, decide_true, decide_false, beq_self_eq_true, bne_self_eq_false, Int.reduceBEq, Int.reduceBNe, Int.cast_ofNat_Int, c53 hE2] at hE
  exact c32 hE
end
end Go.Proofs.Ytfdlmneofbcpnaa.M
