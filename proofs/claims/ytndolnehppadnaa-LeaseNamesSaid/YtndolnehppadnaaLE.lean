/- LeaseNames: a closed statement. -/
import Derived.Test.YtndolnehppadnaaLC
set_option linter.unusedVariables false
set_option linter.unusedSimpArgs false
set_option linter.unnecessarySimpa false
namespace Go.Proofs.Ytndolnehppadnaa.M
open Go.Abs

/-- A book that is none. -/
def NoBook (M : Mem) (q : Option (Nat × Nat)) : Prop := q = none ∨ ∃ k cs, q = some (k, 0) ∧ M.get k = some ⟨.bool false :: cs, .fixed⟩
theorem NoBook.upto {M M' : Mem} {q : Option (Nat × Nat)} (h : NoBook M q) (hu : M.Upto M') : NoBook M' q := by
  rcases h with h | ⟨k, cs, h, hg⟩
  · exact .inl h
  · exact .inr ⟨k, cs, h, hu.get hg⟩
theorem isNone_C {M : Mem} {q : Option (Nat × Nat)} (h : NoBook M q) : C 39 [.ptr q] M = some (.bool true, M) := by
  refine c39 ?_
  rw [p39_0_eq]
  rcases h with rfl | ⟨k, cs, rfl, hg⟩
  · rfl
  · simp (disch := (try simp only [Mem.n_alloc, Mem.n_put]); omega) only [Mem.ldI, Mem.ldB, Mem.ldS, Mem.ldP, Mem.ldL, Mem.ldM, Mem.ldF, Mem.ldN, Mem.ld, Mem.cells, AObj.live, Option.bind_some, List.getElem?_cons_zero, List.getElem?_cons_succ, int?_int, AVal.bool?, AVal.ptr?, AVal.sl?, AVal.tup?, AVal.agg?, AVal.ifc?, AVal.fn?, AVal.str?, List.head?_cons, List.tail_cons, List.isEmpty_nil, cond_true, cond_false, Option.isNone_some, Option.isNone_none, Nat.zero_add, Bool.not_true, Bool.not_false, decide_true, decide_false, get_alloc_self, get_alloc_lt, get_put_self, get_put_ne, beq_self_eq_true, bne_self_eq_false, slPtr, hg]
theorem noLend_C {M : Mem} {q : Option (Nat × Nat)} {x y : Int} (h : NoBook M q) : C 22 [.ptr q, .agg [.int .i64 x, .int .i64 y]] M = some (.tup [.sl none 0 (.known 0), .int .i64 0, .int .i64 1], M.alloc ⟨[.int .i64 x, .int .i64 y], .fixed⟩) := by
  refine c22 ?_
  rw [p22_0_eq]
  simp only [Option.bind_some, List.getElem?_cons_zero, List.getElem?_cons_succ, int?_int, AVal.bool?, AVal.ptr?, AVal.sl?, AVal.tup?, AVal.agg?, AVal.ifc?, AVal.fn?, AVal.str?, List.head?_cons, List.tail_cons, List.isEmpty_nil, cond_true, cond_false, Option.isNone_some, Option.isNone_none, Bool.not_true, Bool.not_false, decide_true, decide_false, beq_self_eq_true, bne_self_eq_false, Int.reduceBEq, Int.reduceBNe, Int.cast_ofNat_Int, isNone_C (h.upto (Mem.Upto.alloc M ⟨[.int .i64 x, .int .i64 y], .fixed⟩))]
theorem noBack_C {M : Mem} {q : Option (Nat × Nat)} {x : Int} (h : NoBook M q) : C 20 [.ptr q, .int .i64 x] M = some (.int .i64 1, M) := by
  refine c20 ?_
  rw [p20_0_eq]
  simp only [Option.bind_some, List.getElem?_cons_zero, List.getElem?_cons_succ, int?_int, AVal.bool?, AVal.ptr?, AVal.sl?, AVal.tup?, AVal.agg?, AVal.ifc?, AVal.fn?, AVal.str?, List.head?_cons, List.tail_cons, List.isEmpty_nil, cond_true, cond_false, Option.isNone_some, Option.isNone_none, Bool.not_true, Bool.not_false, decide_true, decide_false, beq_self_eq_true, bne_self_eq_false, Int.reduceBEq, Int.reduceBNe, Int.cast_ofNat_Int, isNone_C h]
theorem noOut_C {M : Mem} {q : Option (Nat × Nat)} (h : NoBook M q) : C 24 [.ptr q] M = some (.sl none 0 (.known 0), M) := by
  refine c24 ?_
  rw [p24_0_eq]
  simp only [Option.bind_some, List.getElem?_cons_zero, List.getElem?_cons_succ, int?_int, AVal.bool?, AVal.ptr?, AVal.sl?, AVal.tup?, AVal.agg?, AVal.ifc?, AVal.fn?, AVal.str?, List.head?_cons, List.tail_cons, List.isEmpty_nil, cond_true, cond_false, Option.isNone_some, Option.isNone_none, Bool.not_true, Bool.not_false, decide_true, decide_false, beq_self_eq_true, bne_self_eq_false, Int.reduceBEq, Int.reduceBNe, Int.cast_ofNat_Int, isNone_C h]
theorem names_step {M : Mem} {q : Option (Nat × Nat)} {i : Nat} (h : NoBook M q) (hi : i < 2) : ∃ M' q', NoBook M' q' ∧ p7_1 C prog.meth q i M = p7_1 C prog.meth q' ((i + 1 : Nat) : Int) M' := by
  have hE := p7_1_eq C prog.meth q i M
  have h1 : ((i : Int) < 2) := by omega
  have hw : IntKind.wrap .i64 ((i : Int) + 1) = ((i + 1 : Nat) : Int) := by rw [wrap_i64 (by omega) (by omega)]; rfl
  have h2 := h.upto (Mem.Upto.alloc M ⟨[.int .i64 (-1), .int .i64 0], .fixed⟩)
  have hz : (((0 : Nat) : Int) != 0) = false := by decide
  simp only [Option.bind_some, List.getElem?_cons_zero, List.getElem?_cons_succ, int?_int, AVal.bool?, AVal.ptr?, AVal.sl?, AVal.tup?, AVal.agg?, AVal.ifc?, AVal.fn?, AVal.str?, List.head?_cons, List.tail_cons, List.isEmpty_nil, cond_true, cond_false, Option.isNone_some, Option.isNone_none, Bool.not_true, Bool.not_false, decide_true, decide_false, beq_self_eq_true, bne_self_eq_false, Int.reduceBEq, Int.reduceBNe, Int.cast_ofNat_Int, h1, noLend_C h, noBack_C h2, noOut_C h2, hz, hw] at hE
  exact ⟨_, _, .inr ⟨_, _, rfl, get_alloc_self _ _⟩, hE⟩
def ends : List (Int × Int) := [(0, 0), (6, 0), (7, 0), (5, 2), (5, 1), (-1, 1), (0, -1), (9223372036854775807, 1), (1, 9223372036854775807), (9223372036854775807, 9223372036854775807), (0, 6), (-9223372036854775808, 0)]
theorem doRow {M : Mem} (b : Bool) {x y z : Int} (hx : (Lit.int .i64 x).wf = true) (hy : (Lit.int .i64 y).wf = true) (hz : (Lit.int .i64 z).wf = true) : ShowsR M [.bool, .int .i64, .int .i64, .int .i64] [.bool b, .int .i64 x, .int .i64 y, .int .i64 z] := by
  simp only [ShowsR, Shows]
  exact ⟨_, _, rfl, ⟨_, rfl⟩, _, _, rfl, ⟨_, rfl, hx⟩, _, _, rfl, ⟨_, rfl, hy⟩, _, _, rfl, ⟨_, rfl, hz⟩, rfl⟩
theorem names_loop {o b : Nat} : ∀ (d i : Nat) (M : Mem), i + d = 12 → M.get b = some ⟨[.int .u8 0, .int .u8 1, .int .u8 2, .int .u8 3, .int .u8 4, .int .u8 5], .fixed⟩ → M.get o = some ⟨ends.flatMap encR, .fixed⟩ →
    ∃ M', p7_2 C prog.meth (some (b, 0)) 6 (.known 6) (some (o, 0)) 12 (.known 12) i M = p7_2 C prog.meth (some (b, 0)) 6 (.known 6) (some (o, 0)) 12 (.known 12) 12 M' := by
  intro d
  induction d with
  | zero =>
    intro i M hi hb ho
    obtain rfl : i = 12 := by omega
    exact ⟨M, rfl⟩
  | succ d ih =>
    intro i M hi hb ho
    have hx : M.ints .u8 (some (b, 0)) 6 (.known 6) = some [0, 1, 2, 3, 4, 5] := ints_whole (k := .u8) (xs := [0, 1, 2, 3, 4, 5]) hb (by simp) rfl
    have hxb : ∀ x ∈ ([0, 1, 2, 3, 4, 5] : List Int), 0 ≤ x ∧ x < 256 := by decide
    have hil : i < ends.length := by show i < 12; omega
    obtain ⟨p, hp, hget⟩ := (Sl.whole (c := .known 12) encR2 ho (by simp) rfl).get encR2 (by omega) (i := i) hil
    have hpo : p.1 < M.n := ld_lt (v := .int .i64 ends[i].1) (by rw [hget 0 (by omega)]; rfl)
    have hbnd : ∀ r ∈ ends, -9223372036854775808 ≤ r.1 ∧ r.1 < 2 ^ 63 ∧ -9223372036854775808 ≤ r.2 ∧ r.2 < 2 ^ 63 := by decide
    obtain ⟨g0, g1, g2, g3⟩ := hbnd ends[i] (List.getElem_mem hil)
    have e0 : ∀ M', M.Upto M' → M'.ldI .i64 p.1 (p.2 + i * 2) = some ends[i].1 := fun M' hu => ldI_ld.2 (by rw [ld_same (hu.2 _ hpo)]; simpa [encR] using hget 0 (by omega))
    have e1 : ∀ M', M.Upto M' → M'.ldI .i64 p.1 (p.2 + (i * 2 + 1)) = some ends[i].2 := fun M' hu => ldI_ld.2 (by rw [ld_same (hu.2 _ hpo)]; simpa [encR] using hget 1 (by omega))
    have hE := p7_2_eq C prog.meth (some (b, 0)) 6 (.known 6) (some (o, 0)) 12 (.known 12) i M
    have h0 : (0 : Int) ≤ (i : Int) := by omega
    have h1 : ((i : Int) < 12) := by omega
    have h2 : Nat.blt i 12 = true := Mem.blt_iff.2 (by omega)
    have hw : IntKind.wrap .i64 ((i : Int) + 1) = ((i + 1 : Nat) : Int) := by rw [wrap_i64 (by omega) (by omega)]; rfl
    obtain ⟨M1, c1, u1⟩ := LeaseLends_C (at_ := ends[i].1) (n := ends[i].2) hx hxb (by omega) g1 g3
    obtain ⟨M2, c2, u2⟩ := LeaseLends_C (M := M1) (a := none) (l := 0) (c := .known 0) (xs := []) (at_ := ends[i].1) (n := ends[i].2) rfl (by simp) (by omega) g1 g3
    have u12 := u1.trans u2
    have u3 := Mem.Upto.alloc M2 ⟨[.bool false, .int .i64 0, .int .i64 2, .int .i64 1, .bool false, .int .i64 0, .int .i64 ends[i].1, .int .i64 ends[i].2, .bool true, .int .i64 ends[i].1, .int .i64 0, .int .i64 0, .bool false, .int .i64 0, .int .i64 ends[i].1, .int .i64 ends[i].2], .fixed⟩
    have hg3 := get_alloc_self M2 ⟨[.bool false, .int .i64 0, .int .i64 2, .int .i64 1, .bool false, .int .i64 0, .int .i64 ends[i].1, .int .i64 ends[i].2, .bool true, .int .i64 ends[i].1, .int .i64 0, .int .i64 0, .bool false, .int .i64 0, .int .i64 ends[i].1, .int .i64 ends[i].2], .fixed⟩
    have wf : ∀ x : Int, -9223372036854775808 ≤ x → x < 2 ^ 63 → (Lit.int .i64 x).wf = true := by
      intro x h1 h2
      have m1 : IntKind.min .i64 = -9223372036854775808 := by decide
      have m2 : IntKind.max .i64 = 9223372036854775807 := by decide
      simp only [Lit.wf, m1, m2, Bool.and_eq_true, decide_eq_true_eq]
      omega
    have w1 := wf _ g0 g1
    have w2 := wf _ g2 g3
    obtain ⟨M4, c4, u4⟩ := LeaseBooks_C (a1 := some (M2.n, 0)) (l1 := 4) (c1 := .known 4) (ints_upto hx (u12.trans u3)) hxb (by omega) (ArgRows.of hg3 (by simp) rfl (fun j hj => by
      have hz : (Lit.int .i64 0).wf = true := by decide
      have hz1 : (Lit.int .i64 1).wf = true := by decide
      have hz2 : (Lit.int .i64 2).wf = true := by decide
      have : j = 0 ∨ j = 1 ∨ j = 2 ∨ j = 3 := by omega
      rcases this with rfl | rfl | rfl | rfl
      · exact doRow false hz hz2 hz1
      · exact doRow false hz w1 w2
      · exact doRow true w1 hz hz
      · exact doRow false hz w1 w2))
    have u := (u12.trans u3).trans u4
    simp only [Option.bind_some, List.getElem?_cons_zero, List.getElem?_cons_succ, int?_int, AVal.bool?, AVal.ptr?, AVal.sl?, AVal.tup?, AVal.agg?, AVal.ifc?, AVal.fn?, AVal.str?, List.head?_cons, List.tail_cons, List.isEmpty_nil, cond_true, cond_false, Option.isNone_some, Option.isNone_none, Bool.not_true, Bool.not_false, decide_true, decide_false, beq_self_eq_true, bne_self_eq_false, Int.reduceBEq, Int.reduceBNe, Int.cast_ofNat_Int, h0, h1, Int.toNat_natCast, h2, hp, Nat.add_assoc, Nat.add_zero, e0 M (Mem.Upto.refl M), e1 M (Mem.Upto.refl M), c1, e0 M1 u1, e1 M1 u1, c2, e0 M2 u12, e1 M2 u12, c4, hw] at hE
    obtain ⟨M', q⟩ := ih (i + 1) M4 (by omega) (u.get hb) (u.get ho)
    exact ⟨M', hE.trans q⟩
theorem LeaseNames_C {M : Mem} : ∃ M', C 7 [] M = some (.bool true, M') := by
  obtain ⟨Ma, hawake⟩ := awake02_C
  obtain ⟨M1, q1, n1, s1⟩ := names_step (M := M) (q := none) (i := 0) (.inl rfl) (by omega)
  obtain ⟨M2, q2, n2, s2⟩ := names_step (i := 1) n1 (by omega)
  have hE := p7_1_eq C prog.meth q2 ((1 + 1 : Nat) : Int) M2
  have h1 : ¬ (((1 + 1 : Nat) : Int) < 2) := by omega
  simp only [h1, decide_false, cond_false] at hE
  obtain ⟨M3, s3⟩ := names_loop (o := M2.n + 1) (b := M2.n) 12 0 ((M2.alloc ⟨[.int .u8 0, .int .u8 1, .int .u8 2, .int .u8 3, .int .u8 4, .int .u8 5], .fixed⟩).alloc ⟨ends.flatMap encR, .fixed⟩) (by omega) (get_alloc_of (get_alloc_self _ _)) (get_alloc_self (M2.alloc ⟨[.int .u8 0, .int .u8 1, .int .u8 2, .int .u8 3, .int .u8 4, .int .u8 5], .fixed⟩) _)
  have hE2 := p7_2_eq C prog.meth (some (M2.n, 0)) 6 (.known 6) (some (M2.n + 1, 0)) 12 (.known 12) 12 M3
  have h2 : ¬ ((12 : Int) < 12) := by omega
  obtain ⟨M4, c4, u4, b4⟩ := New_C (ba := none) (bl := 0) (bc := .known 0) (M := M3)
  obtain ⟨M5, n5, ⟨w5, _⟩ | ⟨w5, m5, _⟩ | ⟨w5, m5, c5, _⟩⟩ := BookLend_C (at_ := 0) (n := 0) b4 rfl (by omega) (by omega) (by omega) (by simp)
  · exact absurd w5 (by decide)
  · simp at m5
  · simp only [Option.bind_some, List.getElem?_cons_zero, List.getElem?_cons_succ, int?_int, AVal.bool?, AVal.ptr?, AVal.sl?, AVal.tup?, AVal.agg?, AVal.ifc?, AVal.fn?, AVal.str?, List.head?_cons, List.tail_cons, List.isEmpty_nil, cond_true, cond_false, Option.isNone_some, Option.isNone_none, Bool.not_true, Bool.not_false, decide_true, decide_false, beq_self_eq_true, bne_self_eq_false, Int.reduceBEq, Int.reduceBNe, Int.cast_ofNat_Int, h2, c4, c5, hawake] at hE2
    exact ⟨_, c7 ((p7_0_eq _ _ _).trans (s1.trans (s2.trans (hE.trans (s3.trans hE2)))))⟩
theorem LeaseNames_law : ∀ avs M, M.Whole → okL M.n avs → ShowsArgs M [] avs → ∃ M', C 7 avs M = some (.bool true, M') := by
  intro avs M hM hok h
  simp only [ShowsArgs] at h
  subst h
  exact LeaseNames_C
end Go.Proofs.Ytndolnehppadnaa.M
