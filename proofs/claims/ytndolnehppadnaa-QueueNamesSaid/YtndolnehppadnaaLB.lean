/- Books of lease: what their functions answer. -/
import Derived.Test.YtndolnehppadnaaL
import Derived.Test.YtndolnehppadnaaXLib3
set_option linter.unusedVariables false
set_option linter.unusedSimpArgs false
set_option linter.unnecessarySimpa false
namespace Go.Proofs.Ytndolnehppadnaa.M
open Go.Abs

/-- An object made and filled at once. -/
theorem upto_made (M : Mem) (x y : AObj) : M.Upto ((M.alloc x).put M.n y) := ⟨by simp, fun o ho => by rw [get_put_ne (by omega), get_alloc_lt ho]⟩
theorem get_made (M : Mem) (x y : AObj) : ((M.alloc x).put M.n y).get M.n = some y := get_put_self (by simp)
theorem st_made {M : Mem} {cs vs : List AVal} (h : vs.length = cs.length) : (M.alloc ⟨cs, .fixed⟩).st M.n 0 vs = some ((M.alloc ⟨cs, .fixed⟩).put M.n ⟨vs, .fixed⟩) := by
  rw [st_fix (get_alloc_self _ _) (by omega)]
  congr 3
  apply List.ext_getElem?
  intro j
  rw [overL_get _ _ _ _ (by omega)]
  by_cases hj : j < vs.length
  · rw [if_pos (by omega)]; rfl
  · rw [if_neg (by omega), List.getElem?_eq_none (by omega), List.getElem?_eq_none (by omega)]

abbrev Win := Int × Int × Int
def encW (w : Win) : List AVal := [.int .i64 w.1, .int .i64 w.2.1, .int .i64 w.2.2]
def encR (r : Int × Int) : List AVal := [.int .i64 r.1, .int .i64 r.2]
def encB (b : Bool) : List AVal := [.bool b]
theorem encW3 : Enc 3 encW := fun _ => rfl
theorem encR2 : Enc 2 encR := fun _ => rfl
theorem encB1 : Enc 1 encB := fun _ => rfl
/-- Have two ranges a byte together? -/
def meets (x r : Int × Int) : Bool := decide (x.2 > 0) && (decide (r.2 > 0) && (decide (x.1 < IntKind.wrap .i64 (r.1 + r.2)) && decide (r.1 < IntKind.wrap .i64 (x.1 + x.2))))
theorem meet_C {x1 x2 y1 y2 : Int} {M : Mem} : C 40 [.agg [.int .i64 x1, .int .i64 x2], .agg [.int .i64 y1, .int .i64 y2]] M = some (.bool (meets (x1, x2) (y1, y2)), (M.alloc ⟨[.int .i64 x1, .int .i64 x2], .fixed⟩).alloc ⟨[.int .i64 y1, .int .i64 y2], .fixed⟩) := by
  refine c40 ?_
  rw [p40_0_eq]
  simp (disch := (try simp only [Mem.n_alloc, Mem.n_put]); omega) only [Mem.ldI, Mem.ldB, Mem.ldS, Mem.ldP, Mem.ldL, Mem.ldM, Mem.ldF, Mem.ldN, Mem.ld, Mem.cells, AObj.live, Option.bind_some, List.getElem?_cons_zero, List.getElem?_cons_succ, int?_int, AVal.bool?, AVal.ptr?, AVal.sl?, AVal.tup?, AVal.agg?, AVal.ifc?, AVal.fn?, AVal.str?, List.head?_cons, List.tail_cons, List.isEmpty_nil, cond_true, cond_false, Option.isNone_some, Option.isNone_none, Nat.zero_add, Bool.not_true, Bool.not_false, decide_true, decide_false, get_alloc_self, get_alloc_lt, get_put_self, get_put_ne, beq_self_eq_true, bne_self_eq_false, slPtr]
  unfold meets
  by_cases h1 : x2 > 0 <;> by_cases h2 : y2 > 0 <;> by_cases h3 : x1 < IntKind.wrap .i64 (y1 + y2) <;> simp [h1, h2, h3]

structure IsBook (M : Mem) (fp : List Nat) (k : Nat) (ba : Option (Nat × Nat)) (bl : Nat) (bc : Cap) (ws : List Win) (next : Int) : Prop where
  ex : ∃ oa ol oc, M.get k = some ⟨[.bool true, .sl ba bl bc, .sl oa ol oc, .int .i64 next], .fixed⟩ ∧ Row M 3 encW oa ol oc ws ∧ fp = k :: fpOf oa ∧ (∀ o ∈ fpOf oa, o < M.n ∧ o ≠ k)
theorem IsBook.lt {M : Mem} {fp : List Nat} {k : Nat} {ba : Option (Nat × Nat)} {bl : Nat} {bc : Cap} {ws : List Win} {next : Int} (h : IsBook M fp k ba bl bc ws next) : ∀ o ∈ fp, o < M.n := by
  obtain ⟨oa, ol, oc, h1, h2, rfl, h4⟩ := h.ex
  intro o ho
  rcases List.mem_cons.1 ho with rfl | ho
  · exact Mem.get_lt h1
  · exact (h4 o ho).1
theorem IsBook.frame {M M' : Mem} {fp : List Nat} {k : Nat} {ba : Option (Nat × Nat)} {bl : Nat} {bc : Cap} {ws : List Win} {next : Int} (h : IsBook M fp k ba bl bc ws next) (hn : M.n ≤ M'.n) (hg : ∀ o ∈ fp, M'.get o = M.get o) : IsBook M' fp k ba bl bc ws next := by
  obtain ⟨oa, ol, oc, h1, h2, rfl, h4⟩ := h.ex
  exact ⟨oa, ol, oc, (hg k (by simp)).trans h1, h2.same (fun o ho => hg o (by simp [ho])), rfl, fun o ho => ⟨by have := (h4 o ho).1; omega, (h4 o ho).2⟩⟩
theorem IsBook.upto {M M' : Mem} {fp : List Nat} {k : Nat} {ba : Option (Nat × Nat)} {bl : Nat} {bc : Cap} {ws : List Win} {next : Int} (h : IsBook M fp k ba bl bc ws next) (hu : M.Upto M') : IsBook M' fp k ba bl bc ws next :=
  h.frame hu.1 (fun o ho => hu.2 o (h.lt o ho))
theorem none_C {k : Nat} {M : Mem} {cs : List AVal} (hk : M.get k = some ⟨.bool true :: cs, .fixed⟩) : C 39 [.ptr (some (k, 0))] M = some (.bool false, M) := by
  refine c39 ?_
  rw [p39_0_eq]
  simp (disch := (try simp only [Mem.n_alloc, Mem.n_put]); omega) only [Mem.ldI, Mem.ldB, Mem.ldS, Mem.ldP, Mem.ldL, Mem.ldM, Mem.ldF, Mem.ldN, Mem.ld, Mem.cells, AObj.live, Option.bind_some, List.getElem?_cons_zero, List.getElem?_cons_succ, int?_int, AVal.bool?, AVal.ptr?, AVal.sl?, AVal.tup?, AVal.agg?, AVal.ifc?, AVal.fn?, AVal.str?, List.head?_cons, List.tail_cons, List.isEmpty_nil, cond_true, cond_false, Option.isNone_some, Option.isNone_none, Nat.zero_add, Bool.not_true, Bool.not_false, decide_true, decide_false, get_alloc_self, get_alloc_lt, get_put_self, get_put_ne, beq_self_eq_true, bne_self_eq_false, slPtr, hk]
theorem New_C {ba : Option (Nat × Nat)} {bl : Nat} {bc : Cap} {M : Mem} : ∃ M', C 18 [.sl ba bl bc] M = some (.ptr (some (M.n, 0)), M') ∧ M.Upto M' ∧ IsBook M' [M.n] M.n ba bl bc [] 0 := by
  refine ⟨_, c18 (p18_0_eq _ _ _ _ _ _), Mem.Upto.alloc _ _, none, 0, .known 0, get_alloc_self _ _, Row.nil _ _ _, rfl, by simp [fpOf]⟩

theorem lend_loop {k box : Nat} {ba : Option (Nat × Nat)} {bl : Nat} {bc : Cap} {ws : List Win} {next : Int} {oa : Option (Nat × Nat)} {ol : Nat} {oc : Cap} {at_ n : Int} {wa : Option (Nat × Nat)} {wl : Nat} {wc : Cap} (hol : ol < 2 ^ 40) :
    ∀ (d i : Nat) (M : Mem), i + d = ol → M.get k = some ⟨[.bool true, .sl ba bl bc, .sl oa ol oc, .int .i64 next], .fixed⟩ → Row M 3 encW oa ol oc ws → (∀ o ∈ fpOf oa, o < M.n ∧ o ≠ k) → M.get box = some ⟨[.int .i64 at_, .int .i64 n], .fixed⟩ → box ≠ k → box ∉ fpOf oa →
      ((ws.drop i).any (fun w => meets (w.2.1, w.2.2) (at_, n)) = true ∧ ∃ M', p22_1 C prog.meth (some (k, 0)) box wa wl wc oa ol oc ol i M = some (.tup [.sl none 0 (.known 0), .int .i64 0, .int .i64 21], M') ∧ M.Upto M') ∨
      ((ws.drop i).any (fun w => meets (w.2.1, w.2.2) (at_, n)) = false ∧ ∃ M' fp', p22_1 C prog.meth (some (k, 0)) box wa wl wc oa ol oc ol i M = some (.tup [.sl wa wl wc, .int .i64 next, .int .i64 0], M') ∧
        IsBook M' fp' k ba bl bc (ws ++ [(next, at_, n)]) (IntKind.wrap .i64 (next + 1)) ∧ Mem.But (· ∈ k :: fpOf oa) M M' ∧ FreshOf M (k :: fpOf oa) fp') := by
  intro d
  induction d with
  | zero =>
    intro i M hi hk hrow hfp hbox hbk hbo
    right
    have hlen := hrow.length
    rw [List.drop_eq_nil_of_le (by omega)]
    refine ⟨rfl, ?_⟩
    have hkl := Mem.get_lt hk
    have hbl := Mem.get_lt hbox
    rw [p22_1_eq]
    have h1 : ¬ ((i : Int) < (ol : Int)) := by omega
    have hst := st_fix (i := 3) (vs := [.int .i64 (IntKind.wrap .i64 (next + 1))]) hk (by simp)
    have hov : overL [.bool true, .sl ba bl bc, .sl oa ol oc, .int .i64 next] 3 [.int .i64 (IntKind.wrap .i64 (next + 1))] = [.bool true, .sl ba bl bc, .sl oa ol oc, .int .i64 (IntKind.wrap .i64 (next + 1))] := rfl
    rw [hov] at hst
    generalize hM2 : M.put k ⟨[.bool true, .sl ba bl bc, .sl oa ol oc, .int .i64 (IntKind.wrap .i64 (next + 1))], .fixed⟩ = M2 at hst
    have hn2 : M2.n = M.n := by rw [← hM2]; rfl
    have hk2 : M2.get k = some ⟨[.bool true, .sl ba bl bc, .sl oa ol oc, .int .i64 (IntKind.wrap .i64 (next + 1))], .fixed⟩ := by rw [← hM2]; exact get_put_self hkl
    have hbut2 : ∀ q, q ≠ k → M2.get q = M.get q := by intro q hq; rw [← hM2]; exact get_put_ne hq
    have hbox2 := (hbut2 box hbk).trans hbox
    have hrow2 : Row M2 3 encW oa ol oc ws := hrow.same (fun o ho => hbut2 o (hfp o ho).2)
    obtain ⟨M3, happ, hrow3, hn3, hbut3, hg3⟩ := hrow2.push (bytes := 24) (y := (next, at_, n)) (cs := [.int .i64 next, .int .i64 at_, .int .i64 n]) encW3 (by omega) rfl (by omega)
    have hk3 : M3.get k = some ⟨[.bool true, .sl ba bl bc, .sl oa ol oc, .int .i64 (IntKind.wrap .i64 (next + 1))], .fixed⟩ := hbut3.get hk2 (fun h => (hfp k h).2 rfl)
    have hst3 := st_fix (i := 2) (vs := [.sl (some (M2.n + 1, 0)) (ol + 1) (.unk 0)]) hk3 (by simp)
    have hov3 : overL [.bool true, .sl ba bl bc, .sl oa ol oc, .int .i64 (IntKind.wrap .i64 (next + 1))] 2 [.sl (some (M2.n + 1, 0)) (ol + 1) (.unk 0)] = [.bool true, .sl ba bl bc, .sl (some (M2.n + 1, 0)) (ol + 1) (.unk 0), .int .i64 (IntKind.wrap .i64 (next + 1))] := rfl
    rw [hov3] at hst3
    have hstill : (M2.alloc ⟨[.int .i64 next, .int .i64 at_, .int .i64 n], .fixed⟩).still k 2 [.sl oa ol oc] = true := by
      unfold Mem.still
      rw [raw_of (get_alloc_of hk2) (by simp) (by simp)]
      exact sameL_refl _
    simp (disch := (try simp only [Mem.n_alloc, Mem.n_put]); omega) only [Mem.ldI, Mem.ldB, Mem.ldS, Mem.ldP, Mem.ldL, Mem.ldM, Mem.ldF, Mem.ldN, Mem.ld, Mem.cells, AObj.live, Option.bind_some, List.getElem?_cons_zero, List.getElem?_cons_succ, int?_int, AVal.bool?, AVal.ptr?, AVal.sl?, AVal.tup?, AVal.agg?, AVal.ifc?, AVal.fn?, AVal.str?, List.head?_cons, List.tail_cons, List.isEmpty_nil, cond_true, cond_false, Option.isNone_some, Option.isNone_none, Nat.zero_add, Bool.not_true, Bool.not_false, decide_true, decide_false, get_alloc_self, get_alloc_lt, get_put_self, get_put_ne, beq_self_eq_true, bne_self_eq_false, slPtr, h1, hk, hst, hk2, hbox2, happ, hst3, hstill]
    have hkl3 : k < M3.n := by omega
    refine ⟨_, k :: [M2.n + 1], rfl, ⟨_, _, _, get_put_self hkl3, hrow3.same (fun o ho => ?_), rfl, fun o ho => ?_⟩, ⟨?_, fun q hq hnq => ?_⟩, fun q hq => ?_⟩
    · simp only [fpOf, List.mem_singleton] at ho
      exact get_put_ne (by omega)
    · simp only [fpOf, List.mem_singleton] at ho
      simp only [Mem.n_put]
      omega
    · simp only [Mem.n_put]; omega
    · simp only [List.mem_cons, not_or] at hnq
      rw [get_put_ne hnq.1, hbut3.2 q (by omega) hnq.2, hbut2 q hnq.1]
    · simp only [List.mem_cons, List.not_mem_nil, or_false] at hq ⊢
      omega
  | succ d ih =>
    intro i M hi hk hrow hfp hbox hbk hbo
    have hlen := hrow.length
    have hil : i < ws.length := by omega
    have hkl := Mem.get_lt hk
    have hbl := Mem.get_lt hbox
    obtain ⟨p, hp, hget⟩ := hrow.sl.get encW3 (by omega) (i := i) (by omega)
    have hg0 := hget 0 (by omega)
    have hg1 := hget 1 (by omega)
    have hg2 := hget 2 (by omega)
    simp only [encW, List.getElem?_cons_zero, List.getElem?_cons_succ, Nat.add_zero] at hg0 hg1 hg2
    have e0 := ldI_ld.2 hg0
    have e1 := ldI_ld.2 hg1
    have e2 := ldI_ld.2 hg2
    rw [List.drop_eq_getElem_cons hil, List.any_cons]
    rw [p22_1_eq]
    have h1 : (i : Int) < (ol : Int) := by omega
    have h2 : Nat.blt i ol = true := Mem.blt_iff.2 (by omega)
    have hw : IntKind.wrap .i64 ((i : Int) + 1) = ((i + 1 : Nat) : Int) := by rw [wrap_i64 (by omega) (by omega)]; rfl
    have hst := st_made (M := M) (cs := [.int .i64 0, .int .i64 0, .int .i64 0]) (vs := [.int .i64 ws[i].1, .int .i64 ws[i].2.1, .int .i64 ws[i].2.2]) rfl
    have hu := upto_made M ⟨[.int .i64 0, .int .i64 0, .int .i64 0], .fixed⟩ ⟨[.int .i64 ws[i].1, .int .i64 ws[i].2.1, .int .i64 ws[i].2.2], .fixed⟩
    have hgn := get_made M ⟨[.int .i64 0, .int .i64 0, .int .i64 0], .fixed⟩ ⟨[.int .i64 ws[i].1, .int .i64 ws[i].2.1, .int .i64 ws[i].2.2], .fixed⟩
    generalize (M.alloc ⟨[.int .i64 0, .int .i64 0, .int .i64 0], .fixed⟩).put M.n ⟨[.int .i64 ws[i].1, .int .i64 ws[i].2.1, .int .i64 ws[i].2.2], .fixed⟩ = M2 at hst hu hgn
    have hbox2 := hu.get hbox
    simp only [h1, decide_true, cond_true, Int.natCast_nonneg, Int.toNat_natCast, h2, hp, Option.bind_some, Nat.add_assoc, Nat.reduceAdd, e0, e1, e2, hst, hw]
    simp (disch := (try simp only [Mem.n_alloc, Mem.n_put]); omega) only [Mem.ldI, Mem.ldB, Mem.ldS, Mem.ldP, Mem.ldL, Mem.ldM, Mem.ldF, Mem.ldN, Mem.ld, Mem.cells, AObj.live, Option.bind_some, List.getElem?_cons_zero, List.getElem?_cons_succ, int?_int, AVal.bool?, AVal.ptr?, AVal.sl?, AVal.tup?, AVal.agg?, AVal.ifc?, AVal.fn?, AVal.str?, List.head?_cons, List.tail_cons, List.isEmpty_nil, cond_true, cond_false, Option.isNone_some, Option.isNone_none, Nat.zero_add, Bool.not_true, Bool.not_false, decide_true, decide_false, get_alloc_self, get_alloc_lt, get_put_self, get_put_ne, beq_self_eq_true, bne_self_eq_false, slPtr, hgn, hbox2, meet_C]
    cases hm : meets (ws[i].2.1, ws[i].2.2) (at_, n) with
    | true => exact .inl ⟨rfl, _, rfl, hu⟩
    | false =>
      simp only [cond_false, Bool.false_or]
      have hkl2 := hu.1
      rcases ih (i + 1) M2 (by omega) (hu.get hk) (hrow.upto encW3 (by omega) hu) (fun o ho => ⟨by have := (hfp o ho).1; omega, (hfp o ho).2⟩) hbox2 hbk hbo with ⟨q1, M', q2, q3⟩ | ⟨q1, M', fp', q2, q3, q4, q5⟩
      · exact .inl ⟨q1, M', q2, hu.trans q3⟩
      · exact .inr ⟨q1, M', fp', q2, q3, (hu.but _).trans q4 (fun _ _ h => h), fun o ho => by
          rcases q5 o ho with h | h
          · exact .inl h
          · exact .inr (by omega)⟩
/-- Lend of a book. -/
theorem BookLend_C {k : Nat} {fp : List Nat} {ba : Option (Nat × Nat)} {bl : Nat} {bc : Cap} {ws : List Win} {next : Int} {at_ n : Int} {M : Mem} (hb : IsBook M fp k ba bl bc ws next) (hr : M.room 1 ba bc bl = true) (hl : bl < 2 ^ 62) (h1 : at_ < 2 ^ 63) (h2 : n < 2 ^ 63) (hws : ws.length < 2 ^ 40) :
    ∃ M', M.n ≤ M'.n ∧ ((within at_ n bl = false ∧ C 22 [.ptr (some (k, 0)), .agg [.int .i64 at_, .int .i64 n]] M = some (.tup [.sl none 0 (.known 0), .int .i64 0, .int .i64 20], M') ∧ M.Upto M') ∨
      (within at_ n bl = true ∧ ws.any (fun w => meets (w.2.1, w.2.2) (at_, n)) = true ∧ C 22 [.ptr (some (k, 0)), .agg [.int .i64 at_, .int .i64 n]] M = some (.tup [.sl none 0 (.known 0), .int .i64 0, .int .i64 21], M') ∧ M.Upto M') ∨
      (within at_ n bl = true ∧ ws.any (fun w => meets (w.2.1, w.2.2) (at_, n)) = false ∧ C 22 [.ptr (some (k, 0)), .agg [.int .i64 at_, .int .i64 n]] M = some (.tup [.sl (cond (Nat.beq (at_.toNat + n.toNat) at_.toNat) ba (adv ba (at_.toNat * 1))) n.toNat (.known n.toNat), .int .i64 next, .int .i64 0], M') ∧
        ∃ fp', IsBook M' fp' k ba bl bc (ws ++ [(next, at_, n)]) (IntKind.wrap .i64 (next + 1)) ∧ Mem.But (· ∈ fp) M M' ∧ FreshOf M fp fp')) := by
  obtain ⟨oa, ol, oc, hk, hrow, rfl, hfp⟩ := hb.ex
  have hkl := Mem.get_lt hk
  have hlen := hrow.length
  have hk1 := get_alloc_of (x := ⟨[.int .i64 at_, .int .i64 n], .fixed⟩) hk
  have hL := Lend_C (at_ := at_) (n := n) (room_alloc ⟨[.int .i64 at_, .int .i64 n], .fixed⟩ hr) hl h1 h2
  have hE := p22_0_eq C prog.meth (some (k, 0)) at_ n M
  simp (disch := (try simp only [Mem.n_alloc, Mem.n_put]); omega) only [Mem.ldI, Mem.ldB, Mem.ldS, Mem.ldP, Mem.ldL, Mem.ldM, Mem.ldF, Mem.ldN, Mem.ld, Mem.cells, AObj.live, Option.bind_some, List.getElem?_cons_zero, List.getElem?_cons_succ, int?_int, AVal.bool?, AVal.ptr?, AVal.sl?, AVal.tup?, AVal.agg?, AVal.ifc?, AVal.fn?, AVal.str?, List.head?_cons, List.tail_cons, List.isEmpty_nil, cond_true, cond_false, Option.isNone_some, Option.isNone_none, Nat.zero_add, Bool.not_true, Bool.not_false, decide_true, decide_false, get_alloc_self, get_alloc_lt, get_put_self, get_put_ne, beq_self_eq_true, bne_self_eq_false, slPtr, none_C hk1, hk1, hL] at hE
  have hu := (Mem.Upto.alloc M ⟨[.int .i64 at_, .int .i64 n], .fixed⟩).alloc_r ⟨[.int .i64 at_, .int .i64 n], .fixed⟩
  have hbox : ((M.alloc ⟨[.int .i64 at_, .int .i64 n], .fixed⟩).alloc ⟨[.int .i64 at_, .int .i64 n], .fixed⟩).get M.n = some ⟨[.int .i64 at_, .int .i64 n], .fixed⟩ := get_alloc_of (get_alloc_self _ _)
  by_cases hw : within at_ n bl = true
  · rw [if_pos hw] at hE
    simp (disch := (try simp only [Mem.n_alloc, Mem.n_put]); omega) only [Mem.ldI, Mem.ldB, Mem.ldS, Mem.ldP, Mem.ldL, Mem.ldM, Mem.ldF, Mem.ldN, Mem.ld, Mem.cells, AObj.live, Option.bind_some, List.getElem?_cons_zero, List.getElem?_cons_succ, int?_int, AVal.bool?, AVal.ptr?, AVal.sl?, AVal.tup?, AVal.agg?, AVal.ifc?, AVal.fn?, AVal.str?, List.head?_cons, List.tail_cons, List.isEmpty_nil, cond_true, cond_false, Option.isNone_some, Option.isNone_none, Nat.zero_add, Bool.not_true, Bool.not_false, decide_true, decide_false, get_alloc_self, get_alloc_lt, get_put_self, get_put_ne, beq_self_eq_true, bne_self_eq_false, slPtr, hk1] at hE
    generalize (M.alloc ⟨[.int .i64 at_, .int .i64 n], .fixed⟩).alloc ⟨[.int .i64 at_, .int .i64 n], .fixed⟩ = M2 at hu hbox hE
    have hu1 := hu.1
    rcases lend_loop (wa := cond (Nat.beq (at_.toNat + n.toNat) at_.toNat) ba (adv ba (at_.toNat * 1))) (wl := n.toNat) (wc := .known n.toNat) (by omega) ol 0 M2 (by omega) (hu.get hk) (hrow.upto encW3 (by omega) hu) (fun o ho => ⟨by have := (hfp o ho).1; omega, (hfp o ho).2⟩) hbox (by omega) (fun h => by have := (hfp _ h).1; omega) with ⟨q1, M', q2, q3⟩ | ⟨q1, M', fp', q2, q3, q4, q5⟩
    · exact ⟨M', (hu.trans q3).1, .inr (.inl ⟨hw, q1, c22 (hE.trans q2), hu.trans q3⟩)⟩
    · exact ⟨M', Nat.le_trans hu1 q4.1, .inr (.inr ⟨hw, q1, c22 (hE.trans q2), fp', q3, (hu.but _).trans q4 (fun _ _ h => h), fun o ho => by
        rcases q5 o ho with h | h
        · exact .inl h
        · exact .inr (by omega)⟩)⟩
  · rw [if_neg hw] at hE
    simp (disch := (try simp only [Mem.n_alloc, Mem.n_put]); omega) only [Mem.ldI, Mem.ldB, Mem.ldS, Mem.ldP, Mem.ldL, Mem.ldM, Mem.ldF, Mem.ldN, Mem.ld, Mem.cells, AObj.live, Option.bind_some, List.getElem?_cons_zero, List.getElem?_cons_succ, int?_int, AVal.bool?, AVal.ptr?, AVal.sl?, AVal.tup?, AVal.agg?, AVal.ifc?, AVal.fn?, AVal.str?, List.head?_cons, List.tail_cons, List.isEmpty_nil, cond_true, cond_false, Option.isNone_some, Option.isNone_none, Nat.zero_add, Bool.not_true, Bool.not_false, decide_true, decide_false, get_alloc_self, get_alloc_lt, get_put_self, get_put_ne, beq_self_eq_true, bne_self_eq_false, slPtr] at hE
    exact ⟨_, hu.1, .inl ⟨by simpa using hw, c22 hE, hu⟩⟩
theorem back_loop {k : Nat} {ba : Option (Nat × Nat)} {bl : Nat} {bc : Cap} {ws : List Win} {next : Int} {oa : Option (Nat × Nat)} {ol : Nat} {oc : Cap} {id : Int} (hol : ol < 2 ^ 40) :
    ∀ (d i : Nat) (M : Mem), i + d = ol → M.get k = some ⟨[.bool true, .sl ba bl bc, .sl oa ol oc, .int .i64 next], .fixed⟩ → Row M 3 encW oa ol oc ws → (∀ o ∈ fpOf oa, o < M.n ∧ o ≠ k) → (∀ j (hj : j < ws.length), j < i → ws[j].1 ≠ id) →
      ((∀ w ∈ ws, w.1 ≠ id) ∧ ∃ M', p20_1 C prog.meth (some (k, 0)) id oa ol oc ol i M = some (.int .i64 22, M') ∧ M.Upto M') ∨
      (∃ (j : Nat) (hj : j < ws.length), ws[j].1 = id ∧ ∃ M' fp', p20_1 C prog.meth (some (k, 0)) id oa ol oc ol i M = some (.int .i64 0, M') ∧
        IsBook M' fp' k ba bl bc (ws.take j ++ ws.drop (j + 1)) next ∧ Mem.But (· ∈ k :: fpOf oa) M M' ∧ FreshOf M (k :: fpOf oa) fp') := by
  intro d
  induction d with
  | zero =>
    intro i M hi hk hrow hfp hno
    have hlen := hrow.length
    left
    refine ⟨fun w hw => ?_, M, ?_, Mem.Upto.refl M⟩
    · obtain ⟨j, hj, rfl⟩ := List.getElem_of_mem hw
      exact hno j hj (by omega)
    · rw [p20_1_eq]
      have h1 : ¬ ((i : Int) < (ol : Int)) := by omega
      simp [h1]
  | succ d ih =>
    intro i M hi hk hrow hfp hno
    have hlen := hrow.length
    have hil : i < ws.length := by omega
    have hkl := Mem.get_lt hk
    obtain ⟨p, hp, hget⟩ := hrow.sl.get encW3 (by omega) (i := i) (by omega)
    have hg0 := hget 0 (by omega)
    have hg1 := hget 1 (by omega)
    have hg2 := hget 2 (by omega)
    simp only [encW, List.getElem?_cons_zero, List.getElem?_cons_succ, Nat.add_zero] at hg0 hg1 hg2
    have e0 := ldI_ld.2 hg0
    have e1 := ldI_ld.2 hg1
    have e2 := ldI_ld.2 hg2
    rw [p20_1_eq]
    have h1 : (i : Int) < (ol : Int) := by omega
    have h2 : Nat.blt i ol = true := Mem.blt_iff.2 (by omega)
    have hw : IntKind.wrap .i64 ((i : Int) + 1) = ((i + 1 : Nat) : Int) := by rw [wrap_i64 (by omega) (by omega)]; rfl
    have hst := st_made (M := M) (cs := [.int .i64 0, .int .i64 0, .int .i64 0]) (vs := [.int .i64 ws[i].1, .int .i64 ws[i].2.1, .int .i64 ws[i].2.2]) rfl
    have hu := upto_made M ⟨[.int .i64 0, .int .i64 0, .int .i64 0], .fixed⟩ ⟨[.int .i64 ws[i].1, .int .i64 ws[i].2.1, .int .i64 ws[i].2.2], .fixed⟩
    have hgn := get_made M ⟨[.int .i64 0, .int .i64 0, .int .i64 0], .fixed⟩ ⟨[.int .i64 ws[i].1, .int .i64 ws[i].2.1, .int .i64 ws[i].2.2], .fixed⟩
    generalize (M.alloc ⟨[.int .i64 0, .int .i64 0, .int .i64 0], .fixed⟩).put M.n ⟨[.int .i64 ws[i].1, .int .i64 ws[i].2.1, .int .i64 ws[i].2.2], .fixed⟩ = M2 at hst hu hgn
    have hk2 := hu.get hk
    have hrow2 := hrow.upto encW3 (by omega) hu
    have hn2 := hu.1
    have hfp2 : ∀ o ∈ fpOf oa, o < M2.n ∧ o ≠ k := fun o ho => ⟨by have := (hfp o ho).1; omega, (hfp o ho).2⟩
    simp only [h1, decide_true, cond_true, Int.natCast_nonneg, Int.toNat_natCast, h2, hp, Option.bind_some, Nat.add_assoc, Nat.reduceAdd, e0, e1, e2, hst, hw]
    simp (disch := (try simp only [Mem.n_alloc, Mem.n_put]); omega) only [Mem.ldI, Mem.ldB, Mem.ldS, Mem.ldP, Mem.ldL, Mem.ldM, Mem.ldF, Mem.ldN, Mem.ld, Mem.cells, AObj.live, Option.bind_some, List.getElem?_cons_zero, List.getElem?_cons_succ, int?_int, AVal.bool?, AVal.ptr?, AVal.sl?, AVal.tup?, AVal.agg?, AVal.ifc?, AVal.fn?, AVal.str?, List.head?_cons, List.tail_cons, List.isEmpty_nil, cond_true, cond_false, Option.isNone_some, Option.isNone_none, Nat.zero_add, Bool.not_true, Bool.not_false, decide_true, decide_false, get_alloc_self, get_alloc_lt, get_put_self, get_put_ne, beq_self_eq_true, bne_self_eq_false, slPtr, hgn]
    by_cases hid : ws[i].1 = id
    · right
      refine ⟨i, hil, hid, ?_⟩
      have : (ws[i].1 == id) = true := by simp [hid]
      rw [this, cond_true, p20_2_eq]
      obtain ⟨a2, hcut, hrow3, hf3⟩ := hrow2.head (i := i) (kh := .i64) (km := .i64) encW3 (by omega)
      obtain ⟨a3, c3, hcut2, hsl4, hf4⟩ := hrow2.tail (i := i + 1) (kl := .i64) encW3 (by omega)
      obtain ⟨M3, a5, c5, happ, hrow5, hn3, hbut3, hf5⟩ := hrow3.cat (bytes := 24) encW3 (by omega) hsl4 (by omega) (fun o ho => (hfp2 o (hf3 o ho)).1)
      have hk3 : M3.get k = some ⟨[.bool true, .sl ba bl bc, .sl oa ol oc, .int .i64 next], .fixed⟩ := hbut3.get hk2 (fun h => (hfp2 k (hf3 k h)).2 rfl)
      have hst3 := st_fix (i := 2) (vs := [.sl a5 (i + (ol - (i + 1))) c5]) hk3 (by simp)
      have hov3 : overL [.bool true, .sl ba bl bc, .sl oa ol oc, .int .i64 next] 2 [.sl a5 (i + (ol - (i + 1))) c5] = [.bool true, .sl ba bl bc, .sl a5 (i + (ol - (i + 1))) c5, .int .i64 next] := rfl
      rw [hov3] at hst3
      have hkl3 : k < M3.n := by omega
      simp (disch := (try simp only [Mem.n_alloc, Mem.n_put]); omega) only [Mem.ldI, Mem.ldB, Mem.ldS, Mem.ldP, Mem.ldL, Mem.ldM, Mem.ldF, Mem.ldN, Mem.ld, Mem.cells, AObj.live, Option.bind_some, List.getElem?_cons_zero, List.getElem?_cons_succ, int?_int, AVal.bool?, AVal.ptr?, AVal.sl?, AVal.tup?, AVal.agg?, AVal.ifc?, AVal.fn?, AVal.str?, List.head?_cons, List.tail_cons, List.isEmpty_nil, cond_true, cond_false, Option.isNone_some, Option.isNone_none, Nat.zero_add, Bool.not_true, Bool.not_false, decide_true, decide_false, get_alloc_self, get_alloc_lt, get_put_self, get_put_ne, beq_self_eq_true, bne_self_eq_false, slPtr, hk2, hcut, hw, hcut2, happ, hst3]
      have hne5 : ∀ o ∈ fpOf a5, o ≠ k := fun o ho => by
        rcases (hf5 o ho).1 with h | h
        · exact (hfp2 o (hf3 o h)).2
        · omega
      refine ⟨_, k :: fpOf a5, rfl, ⟨_, _, _, get_put_self hkl3, hrow5.same (fun o ho => get_put_ne (hne5 o ho)), rfl, fun o ho => ⟨(hf5 o ho).2, hne5 o ho⟩⟩, ⟨?_, fun q hq hnq => ?_⟩, fun q hq => ?_⟩
      · simp only [Mem.n_put]; omega
      · simp only [List.mem_cons, not_or] at hnq
        rw [get_put_ne hnq.1, hbut3.2 q (by omega) (fun h => hnq.2 (hf3 q h)), hu.2 q hq]
      · rcases List.mem_cons.1 hq with rfl | hq
        · exact .inl (by simp)
        · rcases (hf5 q hq).1 with h | h
          · exact .inl (by simp [hf3 q h])
          · exact .inr (by omega)
    · have : (ws[i].1 == id) = false := by simp [hid]
      rw [this, cond_false]
      rcases ih (i + 1) M2 (by omega) hk2 hrow2 hfp2 (fun j hj hji => by
        by_cases e : j = i
        · subst e; exact hid
        · exact hno j hj (by omega)) with ⟨q1, M', q2, q3⟩ | ⟨j, hj, q1, M', fp', q2, q3, q4, q5⟩
      · exact .inl ⟨q1, M', q2, hu.trans q3⟩
      · exact .inr ⟨j, hj, q1, M', fp', q2, q3, (hu.but _).trans q4 (fun _ _ h => h), fun o ho => by
          rcases q5 o ho with h | h
          · exact .inl h
          · exact .inr (by omega)⟩
/-- Back of a book. -/
theorem BookBack_C {k : Nat} {fp : List Nat} {ba : Option (Nat × Nat)} {bl : Nat} {bc : Cap} {ws : List Win} {next id : Int} {M : Mem} (hb : IsBook M fp k ba bl bc ws next) (hws : ws.length < 2 ^ 40) :
    ((∀ w ∈ ws, w.1 ≠ id) ∧ ∃ M', C 20 [.ptr (some (k, 0)), .int .i64 id] M = some (.int .i64 22, M') ∧ M.Upto M') ∨
      (∃ (j : Nat) (hj : j < ws.length), ws[j].1 = id ∧ ∃ M' fp', C 20 [.ptr (some (k, 0)), .int .i64 id] M = some (.int .i64 0, M') ∧
        IsBook M' fp' k ba bl bc (ws.take j ++ ws.drop (j + 1)) next ∧ Mem.But (· ∈ fp) M M' ∧ FreshOf M fp fp') := by
  obtain ⟨oa, ol, oc, hk, hrow, rfl, hfp⟩ := hb.ex
  have hkl := Mem.get_lt hk
  have hlen := hrow.length
  have hE := p20_0_eq C prog.meth (some (k, 0)) id M
  simp (disch := (try simp only [Mem.n_alloc, Mem.n_put]); omega) only [Mem.ldI, Mem.ldB, Mem.ldS, Mem.ldP, Mem.ldL, Mem.ldM, Mem.ldF, Mem.ldN, Mem.ld, Mem.cells, AObj.live, Option.bind_some, List.getElem?_cons_zero, List.getElem?_cons_succ, int?_int, AVal.bool?, AVal.ptr?, AVal.sl?, AVal.tup?, AVal.agg?, AVal.ifc?, AVal.fn?, AVal.str?, List.head?_cons, List.tail_cons, List.isEmpty_nil, cond_true, cond_false, Option.isNone_some, Option.isNone_none, Nat.zero_add, Bool.not_true, Bool.not_false, decide_true, decide_false, get_alloc_self, get_alloc_lt, get_put_self, get_put_ne, beq_self_eq_true, bne_self_eq_false, slPtr, none_C hk, hk] at hE
  rcases back_loop (id := id) (by omega) ol 0 M (by omega) hk hrow hfp (fun j hj h => by omega) with ⟨q1, M', q2, q3⟩ | ⟨j, hj, q1, M', fp', q2, q3, q4, q5⟩
  · exact .inl ⟨q1, M', c20 (hE.trans q2), q3⟩
  · exact .inr ⟨j, hj, q1, M', fp', c20 (hE.trans q2), q3, q4, q5⟩
theorem out_loop {k : Nat} {oa : Option (Nat × Nat)} {ol : Nat} {oc : Cap} {ws : List Win} (hol : ol < 2 ^ 40) {M0 : Mem} :
    ∀ (d i : Nat) (M : Mem) (a : Option (Nat × Nat)) (l : Nat) (c : Cap), i + d = ol → Row M 3 encW oa ol oc ws → Row M 2 encR a l c ((ws.take i).map (·.2)) → (∀ o ∈ fpOf a, M0.n ≤ o) → M0.Upto M → (∀ o ∈ fpOf a, o < M.n) → (∀ o ∈ fpOf oa, o < M0.n) → (a = none ∨ ∃ o cs, a = some (o, 0) ∧ c = .unk 0 ∧ M.get o = some ⟨cs, .grow 2⟩ ∧ cs.length = l * 2) →
      ∃ M' a' l' c', p24_1 C prog.meth a l c oa ol oc ol i M = some (.sl a' l' c', M') ∧ M0.Upto M' ∧ Row M' 2 encR a' l' c' (ws.map (·.2)) ∧ (∀ o ∈ fpOf a', M0.n ≤ o ∧ o < M'.n) ∧ (a' = none ∨ ∃ o cs, a' = some (o, 0) ∧ c' = .unk 0 ∧ M'.get o = some ⟨cs, .grow 2⟩ ∧ cs.length = l' * 2) := by
  intro d
  induction d with
  | zero =>
    intro i M a l c hi hrow hr hf hu hlt hoa hown
    have hlen := hrow.length
    rw [p24_1_eq]
    have h1 : ¬ ((i : Int) < (ol : Int)) := by omega
    rw [List.take_of_length_le (by omega)] at hr
    simp only [h1, decide_false, cond_false]
    exact ⟨M, a, l, c, rfl, hu, hr, fun o ho => ⟨hf o ho, hlt o ho⟩, hown⟩
  | succ d ih =>
    intro i M a l c hi hrow hr hf hu hlt hoa hown
    have hlen := hrow.length
    have hil : i < ws.length := by omega
    have hla := hr.length
    rw [List.length_map, List.length_take] at hla
    obtain ⟨p, hp, hget⟩ := hrow.sl.get encW3 (by omega) (i := i) (by omega)
    have hg0 := hget 0 (by omega)
    have hg1 := hget 1 (by omega)
    have hg2 := hget 2 (by omega)
    simp only [encW, List.getElem?_cons_zero, List.getElem?_cons_succ, Nat.add_zero] at hg0 hg1 hg2
    have e0 := ldI_ld.2 hg0
    have e1 := ldI_ld.2 hg1
    have e2 := ldI_ld.2 hg2
    rw [p24_1_eq]
    have h1 : (i : Int) < (ol : Int) := by omega
    have h2 : Nat.blt i ol = true := Mem.blt_iff.2 (by omega)
    have hw : IntKind.wrap .i64 ((i : Int) + 1) = ((i + 1 : Nat) : Int) := by rw [wrap_i64 (by omega) (by omega)]; rfl
    have hst := st_made (M := M) (cs := [.int .i64 0, .int .i64 0, .int .i64 0]) (vs := [.int .i64 ws[i].1, .int .i64 ws[i].2.1, .int .i64 ws[i].2.2]) rfl
    have hu2 := upto_made M ⟨[.int .i64 0, .int .i64 0, .int .i64 0], .fixed⟩ ⟨[.int .i64 ws[i].1, .int .i64 ws[i].2.1, .int .i64 ws[i].2.2], .fixed⟩
    have hgn := get_made M ⟨[.int .i64 0, .int .i64 0, .int .i64 0], .fixed⟩ ⟨[.int .i64 ws[i].1, .int .i64 ws[i].2.1, .int .i64 ws[i].2.2], .fixed⟩
    generalize (M.alloc ⟨[.int .i64 0, .int .i64 0, .int .i64 0], .fixed⟩).put M.n ⟨[.int .i64 ws[i].1, .int .i64 ws[i].2.1, .int .i64 ws[i].2.2], .fixed⟩ = M2 at hst hu2 hgn
    have hn2 := hu2.1
    have hn0 := hu.1
    obtain ⟨M3, happ, hrow3, hn3, hbut3, hg3⟩ := (hr.upto encR2 (by omega) hu2).push (bytes := 16) (y := ws[i].2) (cs := [.int .i64 ws[i].2.1, .int .i64 ws[i].2.2]) encR2 (by omega) rfl (by omega)
    simp only [h1, decide_true, cond_true, Int.natCast_nonneg, Int.toNat_natCast, h2, hp, Option.bind_some, Nat.add_assoc, Nat.reduceAdd, e0, e1, e2, hst, hw]
    simp (disch := (try simp only [Mem.n_alloc, Mem.n_put]); omega) only [Mem.ldI, Mem.ldB, Mem.ldS, Mem.ldP, Mem.ldL, Mem.ldM, Mem.ldF, Mem.ldN, Mem.ld, Mem.cells, AObj.live, Option.bind_some, List.getElem?_cons_zero, List.getElem?_cons_succ, int?_int, AVal.bool?, AVal.ptr?, AVal.sl?, AVal.tup?, AVal.agg?, AVal.ifc?, AVal.fn?, AVal.str?, List.head?_cons, List.tail_cons, List.isEmpty_nil, cond_true, cond_false, Option.isNone_some, Option.isNone_none, Nat.zero_add, Bool.not_true, Bool.not_false, decide_true, decide_false, get_alloc_self, get_alloc_lt, get_put_self, get_put_ne, beq_self_eq_true, bne_self_eq_false, slPtr, hgn, happ]
    have hrow4 : Row M3 3 encW oa ol oc ws := (hrow.upto encW3 (by omega) hu2).same (fun o ho => hbut3.2 o (by have := hoa o ho; omega) (fun h => by have := hf o h; have := hoa o ho; omega))
    refine ih (i + 1) M3 _ _ _ (by omega) hrow4 ?_ (fun o ho => ?_) ?_ (fun o ho => ?_) hoa (.inr ⟨_, _, rfl, rfl, hg3, by rw [flatMap_length encR2, List.length_append, List.length_map, List.length_take]; simp; omega⟩)
    · rw [List.take_add_one, List.getElem?_eq_getElem hil, List.map_append]
      exact hrow3
    · simp only [fpOf, List.mem_singleton] at ho; omega
    · exact ⟨by omega, fun o ho => by rw [hbut3.2 o (by omega) (fun h => by have := hf o h; omega), hu2.2 o (by omega), hu.2 o ho]⟩
    · simp only [fpOf, List.mem_singleton] at ho; omega
/-- Out of a book. -/
theorem BookOut_C {k : Nat} {fp : List Nat} {ba : Option (Nat × Nat)} {bl : Nat} {bc : Cap} {ws : List Win} {next : Int} {M : Mem} (hb : IsBook M fp k ba bl bc ws next) (hws : ws.length < 2 ^ 40) :
    ∃ M' a l c, C 24 [.ptr (some (k, 0))] M = some (.sl a l c, M') ∧ M.Upto M' ∧ Row M' 2 encR a l c (ws.map (·.2)) ∧ (∀ o ∈ fpOf a, M.n ≤ o ∧ o < M'.n) ∧ (a = none ∨ ∃ o cs, a = some (o, 0) ∧ c = .unk 0 ∧ M'.get o = some ⟨cs, .grow 2⟩ ∧ cs.length = l * 2) := by
  obtain ⟨oa, ol, oc, hk, hrow, rfl, hfp⟩ := hb.ex
  have hkl := Mem.get_lt hk
  have hlen := hrow.length
  have hE := p24_0_eq C prog.meth (some (k, 0)) M
  simp (disch := (try simp only [Mem.n_alloc, Mem.n_put]); omega) only [Mem.ldI, Mem.ldB, Mem.ldS, Mem.ldP, Mem.ldL, Mem.ldM, Mem.ldF, Mem.ldN, Mem.ld, Mem.cells, AObj.live, Option.bind_some, List.getElem?_cons_zero, List.getElem?_cons_succ, int?_int, AVal.bool?, AVal.ptr?, AVal.sl?, AVal.tup?, AVal.agg?, AVal.ifc?, AVal.fn?, AVal.str?, List.head?_cons, List.tail_cons, List.isEmpty_nil, cond_true, cond_false, Option.isNone_some, Option.isNone_none, Nat.zero_add, Bool.not_true, Bool.not_false, decide_true, decide_false, get_alloc_self, get_alloc_lt, get_put_self, get_put_ne, beq_self_eq_true, bne_self_eq_false, slPtr, none_C hk, hk] at hE
  obtain ⟨M', a, l, c, q1, q2, q3, q4, q5⟩ := out_loop (M0 := M) (ws := ws) (oa := oa) (oc := oc) (k := k) (ol := ol) (by omega) ol 0 M none 0 (.known 0) (by omega) hrow (Row.nil _ _ _) (by simp [fpOf]) (Mem.Upto.refl M) (by simp [fpOf]) (fun o ho => (hfp o ho).1) (.inl rfl)
  exact ⟨M', a, l, c, c24 (hE.trans q1), q2, q3, q4, q5⟩

/-! The document's book. -/
abbrev RP := (Int × Int) × Bool
structure IsRef (M : Mem) (fp : List Nat) (m : Nat) (n : Int) (ps : List RP) : Prop where
  ex : ∃ aa al ac ia il ic, M.get m = some ⟨[.int .i64 n, .sl aa al ac, .sl ia il ic], .fixed⟩ ∧ Row M 2 encR aa al ac (ps.map (·.1)) ∧ Row M 1 encB ia il ic (ps.map (·.2)) ∧ fp = m :: (fpOf aa ++ fpOf ia) ∧ (∀ o ∈ fpOf aa, o < M.n ∧ o ≠ m ∧ o ∉ fpOf ia) ∧ (∀ o ∈ fpOf ia, o < M.n ∧ o ≠ m) ∧
    (∀ p, ia = some p → ∃ cs kd, M.get p.1 = some ⟨cs, kd⟩ ∧ kd.mine = true)
section
variable {M M' : Mem} {fp : List Nat} {m : Nat} {n : Int} {ps : List RP}
theorem IsRef.lt (h : IsRef M fp m n ps) : ∀ o ∈ fp, o < M.n := by
  obtain ⟨aa, al, ac, ia, il, ic, h1, h2, h3, rfl, h5, h6, h7⟩ := h.ex
  intro o ho
  rcases List.mem_cons.1 ho with rfl | ho
  · exact Mem.get_lt h1
  · rcases List.mem_append.1 ho with ho | ho
    · exact (h5 o ho).1
    · exact (h6 o ho).1
theorem IsRef.frame (h : IsRef M fp m n ps) (hn : M.n ≤ M'.n) (hg : ∀ o ∈ fp, M'.get o = M.get o) : IsRef M' fp m n ps := by
  obtain ⟨aa, al, ac, ia, il, ic, h1, h2, h3, rfl, h5, h6, h7⟩ := h.ex
  exact ⟨aa, al, ac, ia, il, ic, (hg m (by simp)).trans h1, h2.same (fun o ho => hg o (by simp [ho])), h3.same (fun o ho => hg o (by simp [ho])), rfl, fun o ho => ⟨by have := (h5 o ho).1; omega, (h5 o ho).2⟩, fun o ho => ⟨by have := (h6 o ho).1; omega, (h6 o ho).2⟩,
    fun p hp => by obtain ⟨cs, kd, q1, q2⟩ := h7 p hp; exact ⟨cs, kd, (hg p.1 (by subst hp; simp [fpOf])).trans q1, q2⟩⟩
theorem IsRef.upto (h : IsRef M fp m n ps) (hu : M.Upto M') : IsRef M' fp m n ps := h.frame hu.1 (fun o ho => hu.2 o (h.lt o ho))
end
theorem RNew_C {ba : Option (Nat × Nat)} {bl : Nat} {bc : Cap} {M : Mem} : ∃ M', C 19 [.sl ba bl bc] M = some (.ptr (some (M.n, 0)), M') ∧ M.Upto M' ∧ IsRef M' [M.n] M.n bl [] := by
  refine ⟨_, c19 (p19_0_eq _ _ _ _ _ _), Mem.Upto.alloc _ _, none, 0, .known 0, none, 0, .known 0, get_alloc_self _ _, Row.nil _ _ _, Row.nil _ _ _, rfl, by simp [fpOf], by simp [fpOf], fun p hp => by cases hp⟩
theorem rlend_loop {m box : Nat} {N : Int} {ps : List RP} {aa : Option (Nat × Nat)} {al : Nat} {ac : Cap} {ia : Option (Nat × Nat)} {il : Nat} {ic : Cap} {at_ n : Int} (hal : ps.length < 2 ^ 40) :
    ∀ (d i : Nat) (M : Mem), i + d = ps.length → M.get m = some ⟨[.int .i64 N, .sl aa al ac, .sl ia il ic], .fixed⟩ → Row M 2 encR aa al ac (ps.map (·.1)) → Row M 1 encB ia il ic (ps.map (·.2)) → (∀ o ∈ fpOf aa, o < M.n ∧ o ≠ m ∧ o ∉ fpOf ia) → (∀ o ∈ fpOf ia, o < M.n ∧ o ≠ m) →
      M.get box = some ⟨[.int .i64 at_, .int .i64 n], .fixed⟩ → box ≠ m → box ∉ fpOf aa → box ∉ fpOf ia → (∀ p, ia = some p → ∃ cs kd, M.get p.1 = some ⟨cs, kd⟩ ∧ kd.mine = true) →
      ((ps.drop i).any (fun p => p.2 && meets p.1 (at_, n)) = true ∧ ∃ M', p23_1 C prog.meth (some (m, 0)) box i M = some (.tup [.int .i64 0, .int .i64 21], M') ∧ M.Upto M') ∨
      ((ps.drop i).any (fun p => p.2 && meets p.1 (at_, n)) = false ∧ ∃ M' fp', p23_1 C prog.meth (some (m, 0)) box i M = some (.tup [.int .i64 (ps.length : Int), .int .i64 0], M') ∧
        IsRef M' fp' m N (ps ++ [((at_, n), true)]) ∧ Mem.But (· ∈ m :: (fpOf aa ++ fpOf ia)) M M' ∧ FreshOf M (m :: (fpOf aa ++ fpOf ia)) fp') := by
  intro d
  induction d with
  | zero =>
    intro i M hi hk hrow hrow2 hfp hfp2 hbox hbk hbo hbo2 hmine
    right
    have hlen := hrow.length
    have hlen2 := hrow2.length
    rw [List.length_map] at hlen hlen2
    rw [List.drop_eq_nil_of_le (by omega)]
    refine ⟨rfl, ?_⟩
    have hkl := Mem.get_lt hk
    have hbl := Mem.get_lt hbox
    have hE := p23_1_eq C prog.meth (some (m, 0)) box i M
    have h1 : ¬ ((i : Int) < (al : Int)) := by omega
    obtain ⟨M3, happ, hrow3, hn3, hbut3, hg3⟩ := hrow.push (bytes := 16) (y := (at_, n)) (cs := [.int .i64 at_, .int .i64 n]) encR2 (by omega) rfl (by omega)
    have hk3 : M3.get m = some ⟨[.int .i64 N, .sl aa al ac, .sl ia il ic], .fixed⟩ := hbut3.get hk (fun h => (hfp m h).2.1 rfl)
    have hst3 := st_fix (i := 1) (vs := [.sl (some (M.n + 1, 0)) (al + 1) (.unk 0)]) hk3 (by simp)
    have hov3 : overL [.int .i64 N, .sl aa al ac, .sl ia il ic] 1 [.sl (some (M.n + 1, 0)) (al + 1) (.unk 0)] = [.int .i64 N, .sl (some (M.n + 1, 0)) (al + 1) (.unk 0), .sl ia il ic] := rfl
    rw [hov3] at hst3
    have hkl3 : m < M3.n := by omega
    generalize hM4 : M3.put m ⟨[.int .i64 N, .sl (some (M.n + 1, 0)) (al + 1) (.unk 0), .sl ia il ic], .fixed⟩ = M4 at hst3
    have hn4 : M4.n = M3.n := by rw [← hM4]; rfl
    have hk4 : M4.get m = some ⟨[.int .i64 N, .sl (some (M.n + 1, 0)) (al + 1) (.unk 0), .sl ia il ic], .fixed⟩ := by rw [← hM4]; exact get_put_self hkl3
    have hbut4 : ∀ q, q ≠ m → M4.get q = M3.get q := by intro q hq; rw [← hM4]; exact get_put_ne hq
    have hrow4 : Row M4 1 encB ia il ic (ps.map (·.2)) := (hrow2.same (fun o ho => hbut3.2 o (hfp2 o ho).1 (fun h => (hfp o h).2.2 ho))).same (fun o ho => hbut4 o (hfp2 o ho).2)
    obtain ⟨M5, happ5, hrow5, hn5, hbut5, hg5⟩ := hrow4.push (bytes := 1) (y := true) (cs := [.bool true]) encB1 (by omega) rfl (by omega)
    have hk5 : M5.get m = some ⟨[.int .i64 N, .sl (some (M.n + 1, 0)) (al + 1) (.unk 0), .sl ia il ic], .fixed⟩ := hbut5.get hk4 (fun h => (hfp2 m h).2 rfl)
    have hst5 := st_fix (i := 2) (vs := [.sl (some (M4.n + 1, 0)) (il + 1) (.unk 0)]) hk5 (by simp)
    have hov5 : overL [.int .i64 N, .sl (some (M.n + 1, 0)) (al + 1) (.unk 0), .sl ia il ic] 2 [.sl (some (M4.n + 1, 0)) (il + 1) (.unk 0)] = [.int .i64 N, .sl (some (M.n + 1, 0)) (al + 1) (.unk 0), .sl (some (M4.n + 1, 0)) (il + 1) (.unk 0)] := rfl
    rw [hov5] at hst5
    have hkl5 : m < M5.n := by omega
    have hstill : (M.alloc ⟨[.int .i64 at_, .int .i64 n], .fixed⟩).still m 1 [.sl aa al ac] = true := by
      unfold Mem.still
      rw [raw_of (get_alloc_of hk) (by simp) (by simp)]
      exact sameL_refl _
    have hw : IntKind.wrap .i64 (((al + 1 : Nat) : Int) - 1) = (ps.length : Int) := by rw [wrap_i64 (by omega) (by omega)]; omega
    simp (disch := (try simp only [Mem.n_alloc, Mem.n_put]); omega) only [Mem.ldI, Mem.ldB, Mem.ldS, Mem.ldP, Mem.ldL, Mem.ldM, Mem.ldF, Mem.ldN, Mem.ld, Mem.cells, AObj.live, Option.bind_some, List.getElem?_cons_zero, List.getElem?_cons_succ, int?_int, AVal.bool?, AVal.ptr?, AVal.sl?, AVal.tup?, AVal.agg?, AVal.ifc?, AVal.fn?, AVal.str?, List.head?_cons, List.tail_cons, List.isEmpty_nil, cond_true, cond_false, Option.isNone_some, Option.isNone_none, Nat.zero_add, Bool.not_true, Bool.not_false, decide_true, decide_false, get_alloc_self, get_alloc_lt, get_put_self, get_put_ne, beq_self_eq_true, bne_self_eq_false, slPtr, hk, h1, hbox, happ, hst3, hstill, hk4, happ5, hst5, hw] at hE
    refine ⟨_, m :: ([M.n + 1] ++ [M4.n + 1]), hE, ⟨_, _, _, _, _, _, get_put_self hkl5, ?_, ?_, rfl, fun o ho => ?_, fun o ho => ?_, fun p hp => ?_⟩, ⟨?_, fun q hq hnq => ?_⟩, fun q hq => ?_⟩
    · rw [List.map_append]
      refine hrow3.same (fun o ho => ?_)
      simp only [fpOf, List.mem_singleton] at ho
      subst ho
      rw [get_put_ne (by omega), hbut5.2 _ (by omega) (fun h => by have := (hfp2 _ h).1; omega), hbut4 _ (by omega)]
    · rw [List.map_append]
      refine hrow5.same (fun o ho => ?_)
      simp only [fpOf, List.mem_singleton] at ho
      subst ho
      rw [get_put_ne (by omega)]
    · simp only [fpOf, List.mem_singleton] at ho ⊢
      simp only [Mem.n_put]
      omega
    · simp only [fpOf, List.mem_singleton] at ho ⊢
      simp only [Mem.n_put]
      omega
    · obtain rfl := Option.some.inj hp
      exact ⟨_, _, (get_put_ne (by omega)).trans hg5, rfl⟩
    · simp only [Mem.n_put]; omega
    · simp only [List.mem_cons, List.mem_append, not_or] at hnq
      rw [get_put_ne hnq.1, hbut5.2 q (by omega) hnq.2.2, hbut4 q hnq.1, hbut3.2 q hq hnq.2.1]
    · simp only [List.mem_cons, List.mem_append, List.not_mem_nil, or_false] at hq ⊢
      omega
  | succ d ih =>
    intro i M hi hk hrow hrow2 hfp hfp2 hbox hbk hbo hbo2 hmine
    have hlen := hrow.length
    have hlen2 := hrow2.length
    rw [List.length_map] at hlen hlen2
    have hil : i < ps.length := by omega
    have hkl := Mem.get_lt hk
    have hbl := Mem.get_lt hbox
    obtain ⟨p, hp, hget⟩ := hrow.sl.get encR2 (by omega) (i := i) (by omega)
    obtain ⟨q, hq, hget2⟩ := hrow2.sl.get encB1 (by omega) (i := i) (by omega)
    have hg0 := hget 0 (by omega)
    have hg1 := hget 1 (by omega)
    have hg2 := hget2 0 (by omega)
    simp only [encR, encB, List.getElem_map, List.getElem?_cons_zero, List.getElem?_cons_succ, Nat.add_zero] at hg0 hg1 hg2
    have hpo : p.1 < M.n := ld_lt hg0
    have hqo : q.1 < M.n := ld_lt hg2
    rw [List.drop_eq_getElem_cons hil, List.any_cons]
    have hE := p23_1_eq C prog.meth (some (m, 0)) box i M
    have h1 : (i : Int) < (al : Int) := by omega
    have h2 : Nat.blt i al = true := Mem.blt_iff.2 (by omega)
    have h3 : Nat.blt i il = true := Mem.blt_iff.2 (by omega)
    have hw : IntKind.wrap .i64 ((i : Int) + 1) = ((i + 1 : Nat) : Int) := by rw [wrap_i64 (by omega) (by omega)]; rfl
    have hst := st_made (M := M) (cs := [.int .i64 0, .int .i64 0]) (vs := [.int .i64 ps[i].1.1, .int .i64 ps[i].1.2]) rfl
    have hu := upto_made M ⟨[.int .i64 0, .int .i64 0], .fixed⟩ ⟨[.int .i64 ps[i].1.1, .int .i64 ps[i].1.2], .fixed⟩
    have hgn := get_made M ⟨[.int .i64 0, .int .i64 0], .fixed⟩ ⟨[.int .i64 ps[i].1.1, .int .i64 ps[i].1.2], .fixed⟩
    generalize (M.alloc ⟨[.int .i64 0, .int .i64 0], .fixed⟩).put M.n ⟨[.int .i64 ps[i].1.1, .int .i64 ps[i].1.2], .fixed⟩ = M2 at hst hu hgn
    have hbox2 := hu.get hbox
    have hk2 := hu.get hk
    have e0 := ldI_ld.2 hg0
    have e1 := ldI_ld.2 hg1
    have e2 : M2.ldB q.1 (q.2 + i * 1) = some ps[i].2 := by
      unfold Mem.ldB
      rw [ld_same (hu.2 q.1 hqo), hg2]; rfl
    have hmL : M.ldL m (0 + 1) = some (aa, al, ac) := by simp [Mem.ldL, Mem.ld, Mem.cells, hk, AObj.live, AVal.sl?]
    have hmL2 : M2.ldL m (0 + 2) = some (ia, il, ic) := by simp [Mem.ldL, Mem.ld, Mem.cells, hk2, AObj.live, AVal.sl?]
    have n0 : M2.ldI .i64 M.n 0 = some ps[i].1.1 := by simp [Mem.ldI, Mem.ld, Mem.cells, hgn, AObj.live]
    have n1 : M2.ldI .i64 M.n 1 = some ps[i].1.2 := by simp [Mem.ldI, Mem.ld, Mem.cells, hgn, AObj.live]
    have b0 : M2.ldI .i64 box 0 = some at_ := by simp [Mem.ldI, Mem.ld, Mem.cells, hbox2, AObj.live]
    have b1 : M2.ldI .i64 box 1 = some n := by simp [Mem.ldI, Mem.ld, Mem.cells, hbox2, AObj.live]
    simp only [Option.bind_some, hmL, h1, decide_true, cond_true, Int.natCast_nonneg, Int.toNat_natCast, h2, hp, Nat.add_assoc, e0, e1, hst, hmL2, h3, hq, e2, n0, n1, b0, b1, hw] at hE
    have hfp' : ∀ o ∈ fpOf aa, o < M2.n ∧ o ≠ m ∧ o ∉ fpOf ia := fun o ho => ⟨by have := (hfp o ho).1; have := hu.1; omega, (hfp o ho).2⟩
    have hfp2' : ∀ o ∈ fpOf ia, o < M2.n ∧ o ≠ m := fun o ho => ⟨by have := (hfp2 o ho).1; have := hu.1; omega, (hfp2 o ho).2⟩
    have hrec := ih (i + 1) M2 (by omega) hk2 (hrow.upto encR2 (by omega) hu) (hrow2.upto encB1 (by omega) hu) hfp' hfp2' hbox2 hbk hbo hbo2 (fun p hp => by obtain ⟨cs, kd, q1, q2⟩ := hmine p hp; exact ⟨cs, kd, hu.get q1, q2⟩)
    cases hm : (ps[i].2 && meets ps[i].1 (at_, n)) with
    | true =>
      left
      refine ⟨rfl, M2, ?_, hu⟩
      rw [hE]
      unfold meets at hm
      simp only [Bool.and_eq_true] at hm
      obtain ⟨m1, m2, m3, m4, m5⟩ := hm
      simp only [m1, m2, m3, m4, m5, cond_true]
    | false =>
      have hE2 : p23_1 C prog.meth (some (m, 0)) box i M = p23_1 C prog.meth (some (m, 0)) box ((i + 1 : Nat) : Int) M2 := by
        rw [hE]
        unfold meets at hm
        cases m1 : ps[i].2 <;> cases m2 : decide (ps[i].1.2 > 0) <;> cases m3 : decide (n > 0) <;> cases m4 : decide (ps[i].1.1 < IntKind.wrap .i64 (at_ + n)) <;> cases m5 : decide (at_ < IntKind.wrap .i64 (ps[i].1.1 + ps[i].1.2)) <;> first | (exfalso; simp only [m1, m2, m3, m4, m5, Bool.and_true, Bool.and_false, Bool.true_and, Bool.false_and, reduceCtorEq] at hm; done) | simp only [cond_true, cond_false]
      rw [hE2, Bool.false_or]
      have hn2 := hu.1
      rcases hrec with ⟨q1, M', q2, q3⟩ | ⟨q1, M', fp', q2, q3, q4, q5⟩
      · exact .inl ⟨q1, M', q2, hu.trans q3⟩
      · exact .inr ⟨q1, M', fp', q2, q3, (hu.but _).trans q4 (fun _ _ h => h), fun o ho => by
          rcases q5 o ho with h | h
          · exact .inl h
          · exact .inr (by omega)⟩
theorem RLend_C {m : Nat} {fp : List Nat} {N : Int} {ps : List RP} {at_ n : Int} {M : Mem} (hb : IsRef M fp m N ps) (hws : ps.length < 2 ^ 40) :
    ∃ M', M.n ≤ M'.n ∧ ((within at_ n N = false ∧ C 23 [.ptr (some (m, 0)), .agg [.int .i64 at_, .int .i64 n]] M = some (.tup [.int .i64 0, .int .i64 20], M') ∧ M.Upto M') ∨
      (within at_ n N = true ∧ ps.any (fun p => p.2 && meets p.1 (at_, n)) = true ∧ C 23 [.ptr (some (m, 0)), .agg [.int .i64 at_, .int .i64 n]] M = some (.tup [.int .i64 0, .int .i64 21], M') ∧ M.Upto M') ∨
      (within at_ n N = true ∧ ps.any (fun p => p.2 && meets p.1 (at_, n)) = false ∧ C 23 [.ptr (some (m, 0)), .agg [.int .i64 at_, .int .i64 n]] M = some (.tup [.int .i64 (ps.length : Int), .int .i64 0], M') ∧
        ∃ fp', IsRef M' fp' m N (ps ++ [((at_, n), true)]) ∧ Mem.But (· ∈ fp) M M' ∧ FreshOf M fp fp')) := by
  obtain ⟨aa, al, ac, ia, il, ic, hk, hrow, hrow2, rfl, hfp, hfp2, hmine⟩ := hb.ex
  have hkl := Mem.get_lt hk
  have hu := Mem.Upto.alloc M ⟨[.int .i64 at_, .int .i64 n], .fixed⟩
  have hE := p23_0_eq C prog.meth (some (m, 0)) at_ n M
  simp (disch := (try simp only [Mem.n_alloc, Mem.n_put]); omega) only [Mem.ldI, Mem.ldB, Mem.ldS, Mem.ldP, Mem.ldL, Mem.ldM, Mem.ldF, Mem.ldN, Mem.ld, Mem.cells, AObj.live, Option.bind_some, List.getElem?_cons_zero, List.getElem?_cons_succ, int?_int, AVal.bool?, AVal.ptr?, AVal.sl?, AVal.tup?, AVal.agg?, AVal.ifc?, AVal.fn?, AVal.str?, List.head?_cons, List.tail_cons, List.isEmpty_nil, cond_true, cond_false, Option.isNone_some, Option.isNone_none, Nat.zero_add, Bool.not_true, Bool.not_false, decide_true, decide_false, get_alloc_self, get_alloc_lt, get_put_self, get_put_ne, beq_self_eq_true, bne_self_eq_false, slPtr, hk, Within_C] at hE
  have hbox : (M.alloc ⟨[.int .i64 at_, .int .i64 n], .fixed⟩).get M.n = some ⟨[.int .i64 at_, .int .i64 n], .fixed⟩ := get_alloc_self _ _
  generalize M.alloc ⟨[.int .i64 at_, .int .i64 n], .fixed⟩ = M2 at hE hu hbox
  have hn2 := hu.1
  cases hw : within at_ n N with
  | true =>
    rw [hw, Bool.not_true, cond_false] at hE
    rcases rlend_loop (by omega) ps.length 0 M2 (by omega) (hu.get hk) (hrow.upto encR2 (by omega) hu) (hrow2.upto encB1 (by omega) hu) (fun o ho => ⟨by have := (hfp o ho).1; omega, (hfp o ho).2⟩) (fun o ho => ⟨by have := (hfp2 o ho).1; omega, (hfp2 o ho).2⟩) hbox (by omega)
      (fun h => by have := (hfp _ h).1; omega) (fun h => by have := (hfp2 _ h).1; omega) (fun p hp => by obtain ⟨cs, kd, q1, q2⟩ := hmine p hp; exact ⟨cs, kd, hu.get q1, q2⟩) with ⟨q1, M', q2, q3⟩ | ⟨q1, M', fp', q2, q3, q4, q5⟩
    · exact ⟨M', (hu.trans q3).1, .inr (.inl ⟨rfl, q1, c23 (hE.trans q2), hu.trans q3⟩)⟩
    · exact ⟨M', Nat.le_trans hn2 q4.1, .inr (.inr ⟨rfl, q1, c23 (hE.trans q2), fp', q3, (hu.but _).trans q4 (fun _ _ h => h), fun o ho => by
        rcases q5 o ho with h | h
        · exact .inl h
        · exact .inr (by omega)⟩)⟩
  | false =>
    rw [hw, Bool.not_false, cond_true] at hE
    exact ⟨_, hu.1, .inl ⟨rfl, c23 hE, hu⟩⟩
end Go.Proofs.Ytndolnehppadnaa.M
