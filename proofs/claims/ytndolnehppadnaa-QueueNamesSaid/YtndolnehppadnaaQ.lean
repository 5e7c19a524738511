/- The packages queue: what their functions answer. -/
import Derived.Test.YtndolnehppadnaaLC
import Derived.Test.YtndolnehppadnaaXLib4
set_option linter.unusedVariables false
set_option linter.unusedSimpArgs false
set_option linter.unnecessarySimpa false
namespace Go.Proofs.Ytndolnehppadnaa.M
open Go.Abs

theorem awake26_C : ∃ M', C 29 [] Mem.empty = some (.bool true, M') := whole_says (n := 400) (by kernel_rfl)
theorem tmod64 (n : Nat) : Int.tmod (n : Int) 64 = ((n % 64 : Nat) : Int) := by
  rw [Int.tmod_eq_emod_of_nonneg (by omega)]; omega

/-- A slice of its own: nothing, or a whole object of bytes. -/
def Own1 (M : Mem) (v : SlV) (xs : List Int) : Prop := xs.length = v.2.1 ∧ (0 < v.2.1 → ∃ o, v.1 = some (o, 0) ∧ v.2.2 = .unk 0 ∧ M.get o = some ⟨xs.map (.int .u8), .grow 1⟩)
theorem Own1.bytes {M : Mem} {v : SlV} {xs : List Int} (h : Own1 M v xs) : M.bytesAt v = some xs := by
  obtain ⟨a, l, c⟩ := v
  obtain ⟨h1, h2⟩ := h
  by_cases h0 : 0 < l
  · obtain ⟨o, h3, h4, h5⟩ := h2 h0
    simp only at h1 h3 h4
    subst h1 h3 h4
    exact ints_whole h5 (by simp) rfl
  · have : l = 0 := by omega
    subst this
    have : xs = [] := List.length_eq_zero_iff.1 h1
    subst this; rfl
theorem Own1.same {M M' : Mem} {v : SlV} {xs : List Int} (h : Own1 M v xs) (hg : ∀ o ∈ fpS v, M'.get o = M.get o) : Own1 M' v xs := by
  refine ⟨h.1, fun h0 => ?_⟩
  obtain ⟨o, h3, h4, h5⟩ := h.2 h0
  exact ⟨o, h3, h4, (hg o (by unfold fpS; rw [if_neg (by omega), h3]; simp [fpOf])).trans h5⟩
theorem Own1.lt {M : Mem} {v : SlV} {xs : List Int} (h : Own1 M v xs) : ∀ o ∈ fpS v, o < M.n := bytesAt_lt h.bytes
theorem Own1.upto {M M' : Mem} {v : SlV} {xs : List Int} (h : Own1 M v xs) (hu : M.Upto M') : Own1 M' v xs := h.same (fun o ho => hu.2 o (h.lt o ho))
theorem Clone_C {a : Option (Nat × Nat)} {l : Nat} {c : Cap} {M : Mem} {xs : List Int} (hx : M.ints .u8 a l c = some xs) (hl : l ≤ 2 ^ 47) :
    ∃ M' v, C 42 [.sl a l c] M = some (.sl v.1 v.2.1 v.2.2, M') ∧ M.Upto M' ∧ Own1 M' v xs ∧ (∀ o ∈ fpS v, M.n ≤ o) := by
  have hE := p42_0_eq C prog.meth a l c M
  have hlx := ints_length hx
  cases a with
  | none =>
    simp only [Option.isNone_none, cond_true] at hE
    have h0 : xs = [] := by
      by_cases h0 : 0 < l
      · obtain ⟨p, hp, _⟩ := (ints_iff.1 hx).2 0 h0
        have := (slPtr_some hp).1; cases this
      · exact List.length_eq_zero_iff.1 (by omega)
    subst h0
    exact ⟨M, (none, 0, .known 0), c42 hE, Mem.Upto.refl M, ⟨rfl, fun h => by simp at h⟩, by simp [fpS]⟩
  | some p =>
    simp only [Option.isNone_some, cond_false] at hE
    have u1 := Mem.Upto.alloc M ⟨[], .fixed⟩
    by_cases h0 : 0 < l
    · have hx1 : (M.alloc ⟨[], .fixed⟩).raws 1 (some (M.n, 0)) 0 (.known 0) = some [] := rfl
      rw [appK_more hx1 (ints_raws.1 (ints_upto hx u1)) (by omega) (by omega)] at hE
      refine ⟨_, (some (M.n + 1, 0), 0 + l, .unk 0), c42 hE, u1.alloc_r _, ⟨by simp [hlx], fun _ => ⟨M.n + 1, rfl, rfl, ?_⟩⟩, fun o ho => ?_⟩
      · have := get_alloc_self (M.alloc ⟨[], .fixed⟩) ⟨[] ++ xs.map (.int .u8), .grow 1⟩
        simpa using this
      · unfold fpS at ho
        split at ho
        · simp at ho
        · simp only [fpOf, List.mem_singleton] at ho; omega
    · obtain rfl : l = 0 := by omega
      rw [appK_none (Nat.le_refl 0)] at hE
      have : xs = [] := List.length_eq_zero_iff.1 hlx
      subst this
      exact ⟨_, (some (M.n, 0), 0, .known 0), c42 hE, u1, ⟨rfl, fun h => by simp at h⟩, by simp [fpS]⟩
theorem CopyBytes_O {a : Option (Nat × Nat)} {l : Nat} {c : Cap} {M : Mem} {xs : List Int} (hx : M.ints .u8 a l c = some xs) (hl : l ≤ 2 ^ 47) :
    ∃ M' v, C 11 [.sl a l c] M = some (.sl v.1 v.2.1 v.2.2, M') ∧ M.Upto M' ∧ Own1 M' v xs ∧ (∀ o ∈ fpS v, M.n ≤ o) := by
  have h := CopyBytes_C hx hl
  have hlx := ints_length hx
  by_cases h0 : l = 0
  · subst h0
    exact ⟨_, (none, 0, .known 0), h, Mem.Upto.refl M, ⟨hlx, fun h => by simp at h⟩, by simp [fpS]⟩
  · rw [if_neg h0] at h
    exact ⟨_, (some (M.n, 0), l, .unk 0), h, Mem.Upto.alloc _ _, ⟨hlx, fun _ => ⟨_, rfl, rfl, get_alloc_self _ _⟩⟩, fun o ho => by
      unfold fpS at ho
      split at ho
      · simp at ho
      · simp only [fpOf, List.mem_singleton] at ho; omega⟩
/-- The same packets, one by one? -/
theorem eqRows_loop {a : Option (Nat × Nat)} {l : Nat} {c : Cap} {a' : Option (Nat × Nat)} {c' : Cap} {M : Mem} {vs ws : List SlV} {pk qk : List (List Int)} (hx : Sl M 1 encS a l c vs) (hy : Sl M 1 encS a' l c' ws) (hp : Pks M vs pk) (hq : Pks M ws qk) (hl : l < 2 ^ 62) (hsz : ∀ v ∈ vs, v.2.1 < 2 ^ 62) :
    ∀ (d i : Nat), i + d = l → (∀ j, j < i → pk[j]? = qk[j]?) → p37_1 C prog.meth a l c a' l c' i M = some (.bool (decide (pk = qk)), M) := by
  have lx := hx.2
  have ly := hy.2
  have px := hp.length
  have qx := hq.length
  intro d
  induction d with
  | zero =>
    intro i hi hj
    rw [p37_1_eq]
    have : pk = qk := by
      apply List.ext_getElem?
      intro j
      by_cases h : j < l
      · exact hj j (by omega)
      · rw [List.getElem?_eq_none (by omega), List.getElem?_eq_none (by omega)]
    have h1 : ¬ ((i : Int) < (l : Int)) := by omega
    simp [h1, this]
  | succ d ih =>
    intro i hi hj
    have hE := p37_1_eq C prog.meth a l c a' l c' i M
    have h0 : (0 : Int) ≤ (i : Int) := by omega
    have h1 : (i : Int) < (l : Int) := by omega
    have h2 : Nat.blt i l = true := Mem.blt_iff.2 (by omega)
    obtain ⟨p, hp1, hpv⟩ := hx.get encS1 (by omega) (i := i) (by omega)
    obtain ⟨q, hq1, hqv⟩ := hy.get encS1 (by omega) (i := i) (by omega)
    have p0 := hpv 0 (by omega)
    have q0 := hqv 0 (by omega)
    simp only [encS, List.getElem?_cons_zero, Nat.add_zero] at p0 q0
    have e0 : M.ldL p.1 (p.2 + i * 1) = some vs[i] := by unfold Mem.ldL; rw [p0]; rfl
    have f0 : M.ldL q.1 (q.2 + i * 1) = some ws[i] := by unfold Mem.ldL; rw [q0]; rfl
    have hw : IntKind.wrap .i64 ((i : Int) + 1) = ((i + 1 : Nat) : Int) := by rw [wrap_i64 (by omega) (by omega)]; rfl
    have hc := EqBytes_C (hp.get (i := i) (by omega)) (hq.get (i := i) (by omega)) (hsz _ (List.getElem_mem _))
    simp only [Option.bind_some, List.getElem?_cons_zero, List.getElem?_cons_succ, int?_int, AVal.bool?, AVal.ptr?, AVal.sl?, AVal.tup?, AVal.agg?, AVal.ifc?, AVal.fn?, AVal.str?, List.head?_cons, List.tail_cons, List.isEmpty_nil, cond_true, cond_false, Option.isNone_some, Option.isNone_none, Bool.not_true, Bool.not_false, decide_true, decide_false, beq_self_eq_true, bne_self_eq_false, Int.reduceBEq, Int.reduceBNe, Int.cast_ofNat_Int, h1, h0, Int.toNat_natCast, h2, hp1, hq1, e0, f0, hc, hw] at hE
    rw [hE]
    by_cases he : pk[i]'(by omega) = qk[i]'(by omega)
    · have : (!decide (pk[i]'(by omega) = qk[i]'(by omega))) = false := by simp [he]
      rw [this, cond_false]
      refine ih (i + 1) (by omega) (fun j hj' => ?_)
      by_cases e : j = i
      · subst e; rw [List.getElem?_eq_getElem (by omega), List.getElem?_eq_getElem (by omega), he]
      · exact hj j (by omega)
    · have : (!decide (pk[i]'(by omega) = qk[i]'(by omega))) = true := by simp [he]
      rw [this, cond_true]
      have hne : pk ≠ qk := fun h => he (by subst h; rfl)
      simp [hne]
theorem EqRows_C {a : Option (Nat × Nat)} {l : Nat} {c : Cap} {a' : Option (Nat × Nat)} {l' : Nat} {c' : Cap} {M : Mem} {vs ws : List SlV} {pk qk : List (List Int)} (hx : Sl M 1 encS a l c vs) (hy : Sl M 1 encS a' l' c' ws) (hp : Pks M vs pk) (hq : Pks M ws qk) (hl : l < 2 ^ 62) (hsz : ∀ v ∈ vs, v.2.1 < 2 ^ 62) :
    C 37 [.sl a l c, .sl a' l' c'] M = some (.bool (decide (pk = qk)), M) := by
  refine c37 ?_
  rw [p37_0_eq]
  by_cases h : l = l'
  · subst h
    have : (((l : Nat) : Int) != (l : Int)) = false := by simp
    rw [this, cond_false]
    exact eqRows_loop hx hy hp hq hl hsz l 0 (by omega) (fun j hj => by omega)
  · have : (((l : Nat) : Int) != (l' : Int)) = true := by simp; omega
    rw [this, cond_true]
    have hne : pk ≠ qk := fun e => h (by rw [← hx.2, ← hy.2, hp.length, hq.length, e])
    simp [hne]

/-! The program's queue. -/
structure IsQ (M : Mem) (q room first : Nat) (vs : List SlV) : Prop where
  ex : ∃ cells, M.get q = some ⟨cells, .fixed⟩ ∧ cells.length = 67 ∧ (∀ i (h : i < vs.length), cells[(first + i) % 64]? = some (.sl vs[i].1 vs[i].2.1 vs[i].2.2)) ∧ cells[64]? = some (.int .i64 (first : Int)) ∧ cells[65]? = some (.int .i64 (vs.length : Int)) ∧ cells[66]? = some (.int .i64 (room : Int))
  h1 : first < 64
  h2 : vs.length ≤ room
  h3 : room ≤ 64
  h4 : 1 ≤ room
theorem IsQ.same {M M' : Mem} {q room first : Nat} {vs : List SlV} (h : IsQ M q room first vs) (hg : M'.get q = M.get q) : IsQ M' q room first vs := by
  obtain ⟨cells, g1, g⟩ := h.ex
  exact ⟨⟨cells, hg.trans g1, g⟩, h.h1, h.h2, h.h3, h.h4⟩
theorem IsQ.lt {M : Mem} {q room first : Nat} {vs : List SlV} (h : IsQ M q room first vs) : q < M.n := by
  obtain ⟨cells, g1, g⟩ := h.ex
  exact Mem.get_lt g1
section
variable {M : Mem} {q room first : Nat} {vs : List SlV}
theorem IsQ.ld (h : IsQ M q room first vs) : M.ldI .i64 q 64 = some (first : Int) ∧ M.ldI .i64 q 65 = some (vs.length : Int) ∧ M.ldI .i64 q 66 = some (room : Int) ∧ ∀ i (hi : i < vs.length), M.ldL q ((first + i) % 64) = some vs[i] := by
  obtain ⟨cells, g1, g2, g3, g4, g5, g6⟩ := h.ex
  refine ⟨ldI_ld.2 (by rw [ld_fix g1]; exact g4), ldI_ld.2 (by rw [ld_fix g1]; exact g5), ldI_ld.2 (by rw [ld_fix g1]; exact g6), fun i hi => ?_⟩
  unfold Mem.ldL
  rw [ld_fix g1, g3 i hi]; rfl
theorem qnone_C (h : IsQ M q room first vs) : C 41 [.ptr (some (q, 0))] M = some (.bool false, M) := by
  have hE := p41_0_eq C prog.meth (some (q, 0)) M
  have h3 := h.ld.2.2.1
  have hr : ((room : Int) == 0) = false := by have := h.h4; simp; omega
  simp only [Option.bind_some, List.getElem?_cons_zero, List.getElem?_cons_succ, int?_int, AVal.bool?, AVal.ptr?, AVal.sl?, AVal.tup?, AVal.agg?, AVal.ifc?, AVal.fn?, AVal.str?, List.head?_cons, List.tail_cons, List.isEmpty_nil, cond_true, cond_false, Option.isNone_some, Option.isNone_none, Bool.not_true, Bool.not_false, decide_true, decide_false, beq_self_eq_true, bne_self_eq_false, Int.reduceBEq, Int.reduceBNe, Int.cast_ofNat_Int, Nat.zero_add, h3, hr] at hE
  exact c41 hE
theorem QLen_C (h : IsQ M q room first vs) : C 35 [.ptr (some (q, 0))] M = some (.int .i64 (vs.length : Int), M) := by
  have hE := p35_0_eq C prog.meth (some (q, 0)) M
  simp only [Option.bind_some, List.getElem?_cons_zero, List.getElem?_cons_succ, int?_int, AVal.bool?, AVal.ptr?, AVal.sl?, AVal.tup?, AVal.agg?, AVal.ifc?, AVal.fn?, AVal.str?, List.head?_cons, List.tail_cons, List.isEmpty_nil, cond_true, cond_false, Option.isNone_some, Option.isNone_none, Bool.not_true, Bool.not_false, decide_true, decide_false, beq_self_eq_true, bne_self_eq_false, Int.reduceBEq, Int.reduceBNe, Int.cast_ofNat_Int, qnone_C h, Nat.zero_add, h.ld.2.1] at hE
  exact c35 hE
theorem Take0_C (h : IsQ M q room first []) : C 30 [.ptr (some (q, 0))] M = some (.tup [.sl none 0 (.known 0), .int .i64 2], M) := by
  have hE := p30_0_eq C prog.meth (some (q, 0)) M
  have h2 := h.ld.2.1
  simp only [Option.bind_some, List.getElem?_cons_zero, List.getElem?_cons_succ, int?_int, AVal.bool?, AVal.ptr?, AVal.sl?, AVal.tup?, AVal.agg?, AVal.ifc?, AVal.fn?, AVal.str?, List.head?_cons, List.tail_cons, List.isEmpty_nil, cond_true, cond_false, Option.isNone_some, Option.isNone_none, Bool.not_true, Bool.not_false, decide_true, decide_false, beq_self_eq_true, bne_self_eq_false, Int.reduceBEq, Int.reduceBNe, Int.cast_ofNat_Int, qnone_C h, Nat.zero_add, h2, List.length_nil] at hE
  exact c30 hE
theorem Take_C {v : SlV} (h : IsQ M q room first (v :: vs)) : ∃ M', C 30 [.ptr (some (q, 0))] M = some (.tup [.sl v.1 v.2.1 v.2.2, .int .i64 0], M') ∧ IsQ M' q room ((first + 1) % 64) vs ∧ M'.n = M.n ∧ Mem.But (· = q) M M' := by
  have hE := p30_0_eq C prog.meth (some (q, 0)) M
  obtain ⟨l1, l2, l3, l4⟩ := h.ld
  obtain ⟨cells, g1, g2, g3, g4, g5, g6⟩ := h.ex
  have hq := Mem.get_lt g1
  have hf := h.h1
  have hv := l4 0 (by simp)
  rw [Nat.add_zero, Nat.mod_eq_of_lt hf] at hv
  have e0 : (((v :: vs).length : Int) == 0) = false := by simp; omega
  have h0 : (0 : Int) ≤ (first : Int) := by omega
  have h1 : Nat.blt first 64 = true := Mem.blt_iff.2 hf
  have s1 := st_fix (i := first) (vs := [.sl none 0 (.known 0)]) g1 (by simp; omega)
  rw [overL_one] at s1
  have k1 : (M.put q ⟨cells.set first (.sl none 0 (.known 0)), .fixed⟩).get q = some ⟨cells.set first (.sl none 0 (.known 0)), .fixed⟩ := get_put_self hq
  have b1 := Mem.But.put M q ⟨cells.set first (.sl none 0 (.known 0)), .fixed⟩
  have n1 : (M.put q ⟨cells.set first (.sl none 0 (.known 0)), .fixed⟩).n = M.n := rfl
  generalize M.put q ⟨cells.set first (.sl none 0 (.known 0)), .fixed⟩ = M1 at s1 k1 b1 n1
  have r1 : M1.ldI .i64 q 64 = some (first : Int) := ldI_ld.2 (by rw [ld_fix k1, List.getElem?_set, if_neg (by omega)]; exact g4)
  have hw1 : IntKind.wrap .i64 ((first : Int) + 1) = ((first + 1 : Nat) : Int) := by rw [wrap_i64 (by omega) (by omega)]; rfl
  have s2 := st_fix (i := 64) (vs := [.int .i64 (((first + 1) % 64 : Nat) : Int)]) k1 (by simp; omega)
  rw [overL_one] at s2
  have k2 : (M1.put q ⟨(cells.set first (.sl none 0 (.known 0))).set 64 (.int .i64 (((first + 1) % 64 : Nat) : Int)), .fixed⟩).get q = some ⟨(cells.set first (.sl none 0 (.known 0))).set 64 (.int .i64 (((first + 1) % 64 : Nat) : Int)), .fixed⟩ := get_put_self (by omega)
  have b2 := Mem.But.put M1 q ⟨(cells.set first (.sl none 0 (.known 0))).set 64 (.int .i64 (((first + 1) % 64 : Nat) : Int)), .fixed⟩
  have n2 : (M1.put q ⟨(cells.set first (.sl none 0 (.known 0))).set 64 (.int .i64 (((first + 1) % 64 : Nat) : Int)), .fixed⟩).n = M1.n := rfl
  generalize M1.put q ⟨(cells.set first (.sl none 0 (.known 0))).set 64 (.int .i64 (((first + 1) % 64 : Nat) : Int)), .fixed⟩ = M2 at s2 k2 b2 n2
  have r2 : M2.ldI .i64 q 65 = some ((v :: vs).length : Int) := ldI_ld.2 (by rw [ld_fix k2, List.getElem?_set, if_neg (by omega), List.getElem?_set, if_neg (by omega)]; exact g5)
  have hw2 : IntKind.wrap .i64 (((v :: vs).length : Int) - 1) = (vs.length : Int) := by
    have g2' := h.h2
    have g3' := h.h3
    have e : ((v :: vs).length : Int) = (vs.length : Int) + 1 := by simp
    rw [List.length_cons] at g2'
    rw [e, wrap_i64 (by omega) (by omega)]; omega
  have s3 := st_fix (i := 65) (vs := [.int .i64 (vs.length : Int)]) k2 (by simp; omega)
  rw [overL_one] at s3
  simp only [Option.bind_some, List.getElem?_cons_zero, List.getElem?_cons_succ, int?_int, AVal.bool?, AVal.ptr?, AVal.sl?, AVal.tup?, AVal.agg?, AVal.ifc?, AVal.fn?, AVal.str?, List.head?_cons, List.tail_cons, List.isEmpty_nil, cond_true, cond_false, Option.isNone_some, Option.isNone_none, Bool.not_true, Bool.not_false, decide_true, decide_false, beq_self_eq_true, bne_self_eq_false, Int.reduceBEq, Int.reduceBNe, Int.cast_ofNat_Int, qnone_C h, Nat.zero_add, Nat.mul_one, l2, e0, l1, h0, Int.toNat_natCast, h1, hv, s1, r1, hw1, tmod64, s2, r2, hw2, s3] at hE
  have hsz := h.h2
  simp only [List.length_cons] at hsz
  have h3 := h.h3
  refine ⟨_, c30 hE, ⟨⟨_, get_put_self (by omega), by simp [g2], fun i hi => ?_, ?_, ?_, ?_⟩, by omega, by omega, h3, h.h4⟩, by rw [Mem.n_put]; omega, (b1.trans b2 (fun _ _ h => h)).trans (Mem.But.put _ _ _) (fun _ _ h => h)⟩
  · have e1 : ((first + 1) % 64 + i) % 64 = (first + (i + 1)) % 64 := by omega
    have e2 : (first + (i + 1)) % 64 ≠ first := by omega
    rw [e1, List.getElem?_set, if_neg (by omega), List.getElem?_set, if_neg (by omega), List.getElem?_set, if_neg (by omega)]
    have := g3 (i + 1) (by simpa using hi)
    simpa only [List.getElem_cons_succ] using this
  · rw [List.getElem?_set, if_neg (by omega), List.getElem?_set, if_pos rfl, if_pos (by simp [g2])]
  · rw [List.getElem?_set, if_pos rfl, if_pos (by simp [g2])]
  · rw [List.getElem?_set, if_neg (by omega), List.getElem?_set, if_neg (by omega), List.getElem?_set, if_neg (by omega)]
    exact g6
/-- Put. -/
theorem Put_C {a : Option (Nat × Nat)} {l : Nat} {c : Cap} {xs : List Int} (h : IsQ M q room first vs) (hx : M.ints .u8 a l c = some xs) :
    (l > 2048 ∧ C 32 [.ptr (some (q, 0)), .sl a l c] M = some (.int .i64 5, M)) ∨
    (l ≤ 2048 ∧ vs.length = room ∧ C 32 [.ptr (some (q, 0)), .sl a l c] M = some (.int .i64 260, M)) ∨
    (l ≤ 2048 ∧ vs.length < room ∧ ∃ M' v, C 32 [.ptr (some (q, 0)), .sl a l c] M = some (.int .i64 0, M') ∧ IsQ M' q room first (vs ++ [v]) ∧ M.n ≤ M'.n ∧ Mem.But (· = q) M M' ∧ Own1 M' v xs ∧ (∀ o ∈ fpS v, M.n ≤ o)) := by
  have hE := p32_0_eq C prog.meth (some (q, 0)) a l c M
  obtain ⟨l1, l2, l3, l4⟩ := h.ld
  have hn := qnone_C h
  have hsz := h.h2
  have hr64 := h.h3
  have hf := h.h1
  by_cases hl : l > 2048
  · have : ((l : Int) > 2048) := by omega
    simp only [Option.bind_some, List.getElem?_cons_zero, List.getElem?_cons_succ, int?_int, AVal.bool?, AVal.ptr?, AVal.sl?, AVal.tup?, AVal.agg?, AVal.ifc?, AVal.fn?, AVal.str?, List.head?_cons, List.tail_cons, List.isEmpty_nil, cond_true, cond_false, Option.isNone_some, Option.isNone_none, Bool.not_true, Bool.not_false, decide_true, decide_false, beq_self_eq_true, bne_self_eq_false, Int.reduceBEq, Int.reduceBNe, Int.cast_ofNat_Int, hn, this] at hE
    exact .inl ⟨hl, c32 hE⟩
  have hl' : ¬ ((l : Int) > 2048) := by omega
  by_cases hfull : vs.length = room
  · have : ((vs.length : Int) == (room : Int)) = true := by simp; omega
    simp only [Option.bind_some, List.getElem?_cons_zero, List.getElem?_cons_succ, int?_int, AVal.bool?, AVal.ptr?, AVal.sl?, AVal.tup?, AVal.agg?, AVal.ifc?, AVal.fn?, AVal.str?, List.head?_cons, List.tail_cons, List.isEmpty_nil, cond_true, cond_false, Option.isNone_some, Option.isNone_none, Bool.not_true, Bool.not_false, decide_true, decide_false, beq_self_eq_true, bne_self_eq_false, Int.reduceBEq, Int.reduceBNe, Int.cast_ofNat_Int, hn, hl', Nat.zero_add, l2, l3, this] at hE
    exact .inr (.inl ⟨by omega, hfull, c32 hE⟩)
  have hfull' : ((vs.length : Int) == (room : Int)) = false := by simp; omega
  obtain ⟨M1, v, c1, u1, o1, f1⟩ := Clone_C hx (by omega)
  have hq := h.lt
  obtain ⟨cells, g1, g2, g3, g4, g5, g6⟩ := (h.same (u1.2 q hq)).ex
  have hw1 : IntKind.wrap .i64 ((first : Int) + (vs.length : Int)) = ((first + vs.length : Nat) : Int) := by rw [wrap_i64 (by omega) (by omega)]; rfl
  have h0 : (0 : Int) ≤ (((first + vs.length) % 64 : Nat) : Int) := by omega
  have h1 : Nat.blt ((first + vs.length) % 64) 64 = true := Mem.blt_iff.2 (by omega)
  have hq1 := Mem.get_lt g1
  have s1 := st_fix (i := (first + vs.length) % 64) (vs := [.sl v.1 v.2.1 v.2.2]) g1 (by simp; omega)
  rw [overL_one] at s1
  have t1 : M1.still q 64 [.int .i64 (first : Int)] = true := still1 (by rw [ld_fix g1]; exact g4)
  have t2 : M1.still q 65 [.int .i64 (vs.length : Int)] = true := still1 (by rw [ld_fix g1]; exact g5)
  have k1 : (M1.put q ⟨cells.set ((first + vs.length) % 64) (.sl v.1 v.2.1 v.2.2), .fixed⟩).get q = some ⟨cells.set ((first + vs.length) % 64) (.sl v.1 v.2.1 v.2.2), .fixed⟩ := get_put_self hq1
  have b1 := Mem.But.put M1 q ⟨cells.set ((first + vs.length) % 64) (.sl v.1 v.2.1 v.2.2), .fixed⟩
  have n1 : (M1.put q ⟨cells.set ((first + vs.length) % 64) (.sl v.1 v.2.1 v.2.2), .fixed⟩).n = M1.n := rfl
  generalize M1.put q ⟨cells.set ((first + vs.length) % 64) (.sl v.1 v.2.1 v.2.2), .fixed⟩ = M2 at s1 k1 b1 n1
  have r1 : M2.ldI .i64 q 65 = some (vs.length : Int) := ldI_ld.2 (by rw [ld_fix k1, List.getElem?_set, if_neg (by omega)]; exact g5)
  have hw2 : IntKind.wrap .i64 ((vs.length : Int) + 1) = ((vs ++ [v]).length : Int) := by rw [wrap_i64 (by omega) (by omega)]; simp
  have s2 := st_fix (i := 65) (vs := [.int .i64 ((vs ++ [v]).length : Int)]) k1 (by simp; omega)
  rw [overL_one] at s2
  simp only [Option.bind_some, List.getElem?_cons_zero, List.getElem?_cons_succ, int?_int, AVal.bool?, AVal.ptr?, AVal.sl?, AVal.tup?, AVal.agg?, AVal.ifc?, AVal.fn?, AVal.str?, List.head?_cons, List.tail_cons, List.isEmpty_nil, cond_true, cond_false, Option.isNone_some, Option.isNone_none, Bool.not_true, Bool.not_false, decide_true, decide_false, beq_self_eq_true, bne_self_eq_false, Int.reduceBEq, Int.reduceBNe, Int.cast_ofNat_Int, hn, hl', Nat.zero_add, Nat.mul_one, l1, l2, l3, hfull', c1, hw1, tmod64, h0, Int.toNat_natCast, h1, s1, t1, t2, r1, hw2, s2] at hE
  have hqv : ∀ o ∈ fpS v, o ≠ q := fun o ho => by have := f1 o ho; omega
  refine .inr (.inr ⟨by omega, by omega, _, v, c32 hE, ⟨⟨_, get_put_self (by omega), by simp [g2], fun i hi => ?_, ?_, ?_, ?_⟩, hf, by simp; omega, hr64, h.h4⟩, by have := u1.1; rw [Mem.n_put]; omega, ?_, ?_, f1⟩)
  · rw [List.getElem?_set, if_neg (by omega), List.getElem?_set]
    by_cases e : i = vs.length
    · subst e
      rw [if_pos rfl, if_pos (by omega)]
      simp
    · have hil : i < vs.length := by simp at hi; omega
      rw [if_neg (by omega), g3 i hil]
      simp [List.getElem_append_left hil]
  · rw [List.getElem?_set, if_neg (by omega), List.getElem?_set, if_neg (by omega)]; exact g4
  · rw [List.getElem?_set, if_pos rfl, if_pos (by simp; omega)]
  · rw [List.getElem?_set, if_neg (by omega), List.getElem?_set, if_neg (by omega)]; exact g6
  · exact ((u1.but _).trans b1 (fun _ _ h => h)).trans (Mem.But.put _ _ _) (fun _ _ h => h)
  · refine o1.same (fun o ho => ?_)
    rw [get_put_ne (hqv o ho), b1.2 o (o1.lt o ho) (hqv o ho)]
/-- A row of slices, each of its own. -/
structure OwnRow (M0 M : Mem) (a : Option (Nat × Nat)) (l : Nat) (c : Cap) (ws : List SlV) (pk : List (List Int)) : Prop where
  up : M0.Upto M
  row : Row M 1 encS a l c ws
  own : ∀ i (h : i < ws.length) (h' : i < pk.length), Own1 M ws[i] pk[i]
  len : ws.length = pk.length
  new : ∀ o ∈ fpOf a, M0.n ≤ o ∧ o < M.n
  sep : ∀ v ∈ ws, ∀ o ∈ fpS v, M0.n ≤ o ∧ o ∉ fpOf a
theorem OwnRow.pks {M0 : Mem} {a : Option (Nat × Nat)} {l : Nat} {c : Cap} {ws : List SlV} {pk : List (List Int)} (h : OwnRow M0 M a l c ws pk) : Pks M ws pk := by
  unfold Pks
  apply List.ext_getElem?
  intro i
  by_cases hi : i < ws.length
  · have hi' : i < pk.length := by rw [← h.len]; exact hi
    rw [List.getElem?_map, List.getElem?_map, List.getElem?_eq_getElem hi, List.getElem?_eq_getElem hi', Option.map_some, Option.map_some, (h.own i hi hi').bytes]
  · rw [List.getElem?_eq_none (by simpa using hi), List.getElem?_eq_none (by rw [List.length_map, ← h.len]; omega)]
theorem OwnRow.nil (M : Mem) : OwnRow M M none 0 (.known 0) [] [] := ⟨Mem.Upto.refl M, Row.nil _ _ _, fun i h => by simp at h, rfl, by simp [fpOf], by simp⟩
theorem OwnRow.push {M0 M1 : Mem} {a : Option (Nat × Nat)} {l : Nat} {c : Cap} {ws : List SlV} {pk : List (List Int)} {v : SlV} {xs : List Int} (h : OwnRow M0 M a l c ws pk) (hl : l < 2 ^ 40) (hu : M.Upto M1) (ho : Own1 M1 v xs) (hf : ∀ o ∈ fpS v, M.n ≤ o) :
    ∃ M', (∀ {β : Type} (K : Option (Nat × Nat) → Nat → Cap → Mem → Option β), appK false 1 24 (M1.alloc ⟨[.sl v.1 v.2.1 v.2.2], .fixed⟩) a l c (.sl (some (M1.n, 0)) 1 (.known 1)) K = K (some (M1.n + 1, 0)) (l + 1) (.unk 0) M') ∧ OwnRow M0 M' (some (M1.n + 1, 0)) (l + 1) (.unk 0) (ws ++ [v]) (pk ++ [xs]) := by
  obtain ⟨M', q1, q2, q3, q4, q5⟩ := (h.row.upto encS1 (by omega) hu).push (bytes := 24) (y := v) (cs := [.sl v.1 v.2.1 v.2.2]) encS1 (by omega) rfl (by omega)
  have n0 := h.up.1
  have n1 := hu.1
  have hlen := h.len
  refine ⟨M', q1, ⟨⟨by omega, fun o ho => by rw [q4.2 o (by omega) (fun hx => by have := (h.new o hx).1; omega), hu.2 o (by omega), h.up.2 o ho]⟩, q2, fun i hi hi' => ?_, by simp [hlen], fun o ho => ?_, fun w hw o ho2 => ?_⟩⟩
  · by_cases e : i < ws.length
    · rw [List.getElem_append_left e, List.getElem_append_left (by omega)]
      have hs := h.sep ws[i] (List.getElem_mem e)
      exact ((h.own i e (by omega)).upto hu).same (fun o ho => q4.2 o (by have := (h.own i e (by omega)).lt o ho; omega) (hs o ho).2)
    · have e1 : i = ws.length := by simp at hi; omega
      subst e1
      rw [List.getElem_append_right (Nat.le_refl _), List.getElem_append_right (by omega)]
      simp only [Nat.sub_self, hlen, List.getElem_singleton]
      exact ho.same (fun o ho' => q4.2 o (ho.lt o ho') (fun hx => by have := (h.new o hx).2; have := hf o ho'; omega))
  · simp only [fpOf, List.mem_singleton] at ho; omega
  · simp only [fpOf, List.mem_singleton]
    rcases List.mem_append.1 hw with h1 | h1
    · have := (h.sep w h1 o ho2).1
      obtain ⟨i, hi, rfl⟩ := List.getElem_of_mem h1
      have := (h.own i hi (by omega)).lt o ho2
      omega
    · simp only [List.mem_singleton] at h1
      subst h1
      have := hf o ho2
      have := ho.lt o ho2
      omega
theorem all_loop {M0 : Mem} {pk : List (List Int)} (h : IsQ M0 q room first vs) (hp : Pks M0 vs pk) (hsz : ∀ v ∈ vs, v.2.1 ≤ 2048) :
    ∀ (d i : Nat) (M : Mem) (a : Option (Nat × Nat)) (l : Nat) (c : Cap) (ws : List SlV), i + d = vs.length → OwnRow M0 M a l c ws (pk.take i) →
      ∃ M' a' l' c' ws', p34_1 C prog.meth (some (q, 0)) a l c (vs.length : Int) i M = some (.sl a' l' c', M') ∧ OwnRow M0 M' a' l' c' ws' pk := by
  intro d
  have hlp := hp.length
  have hf := h.h1
  have h64 := h.h2
  have h642 := h.h3
  induction d with
  | zero =>
    intro i M a l c ws hi ho
    have hE := p34_1_eq C prog.meth (some (q, 0)) a l c (vs.length : Int) i M
    have h1 : ¬ ((i : Int) < (vs.length : Int)) := by omega
    simp only [Option.bind_some, List.getElem?_cons_zero, List.getElem?_cons_succ, int?_int, AVal.bool?, AVal.ptr?, AVal.sl?, AVal.tup?, AVal.agg?, AVal.ifc?, AVal.fn?, AVal.str?, List.head?_cons, List.tail_cons, List.isEmpty_nil, cond_true, cond_false, Option.isNone_some, Option.isNone_none, Bool.not_true, Bool.not_false, decide_true, decide_false, beq_self_eq_true, bne_self_eq_false, Int.reduceBEq, Int.reduceBNe, Int.cast_ofNat_Int, h1] at hE
    rw [List.take_of_length_le (by omega)] at ho
    exact ⟨M, a, l, c, ws, hE, ho⟩
  | succ d ih =>
    intro i M a l c ws hi ho
    have hil : i < vs.length := by omega
    have hE := p34_1_eq C prog.meth (some (q, 0)) a l c (vs.length : Int) i M
    have h1 : ((i : Int) < (vs.length : Int)) := by omega
    have hq := h.lt
    obtain ⟨l1, l2, l3, l4⟩ := (h.same (ho.up.2 q hq)).ld
    have hw1 : IntKind.wrap .i64 ((first : Int) + (i : Int)) = ((first + i : Nat) : Int) := by rw [wrap_i64 (by omega) (by omega)]; rfl
    have h0 : (0 : Int) ≤ (((first + i) % 64 : Nat) : Int) := by omega
    have h2 : Nat.blt ((first + i) % 64) 64 = true := Mem.blt_iff.2 (by omega)
    have hw2 : IntKind.wrap .i64 ((i : Int) + 1) = ((i + 1 : Nat) : Int) := by rw [wrap_i64 (by omega) (by omega)]; rfl
    have hb := bytesAt_upto (hp.get hil) ho.up
    obtain ⟨M1, v, c1, u1, o1, f1⟩ := Clone_C (M := M) (a := vs[i].1) (l := vs[i].2.1) (c := vs[i].2.2) hb (by have := hsz vs[i] (List.getElem_mem hil); omega)
    have hla := ho.row.length
    have hlw := ho.len
    rw [List.length_take] at hlw
    obtain ⟨M2, q1, q2⟩ := ho.push (by omega) u1 o1 f1
    simp only [Option.bind_some, List.getElem?_cons_zero, List.getElem?_cons_succ, int?_int, AVal.bool?, AVal.ptr?, AVal.sl?, AVal.tup?, AVal.agg?, AVal.ifc?, AVal.fn?, AVal.str?, List.head?_cons, List.tail_cons, List.isEmpty_nil, cond_true, cond_false, Option.isNone_some, Option.isNone_none, Bool.not_true, Bool.not_false, decide_true, decide_false, beq_self_eq_true, bne_self_eq_false, Int.reduceBEq, Int.reduceBNe, Int.cast_ofNat_Int, h1, Nat.zero_add, Nat.mul_one, l1, hw1, tmod64, h0, Int.toNat_natCast, h2, l4 i hil, c1, q1, hw2] at hE
    have htake : pk.take (i + 1) = pk.take i ++ [pk[i]'(by omega)] := by rw [List.take_add_one, List.getElem?_eq_getElem (by omega)]; rfl
    rw [← htake] at q2
    obtain ⟨M', a', l', c', ws', s1, s2⟩ := ih (i + 1) M2 _ _ _ _ (by omega) q2
    exact ⟨M', a', l', c', ws', hE.trans s1, s2⟩
theorem All_C {pk : List (List Int)} (h : IsQ M q room first vs) (hp : Pks M vs pk) (hsz : ∀ v ∈ vs, v.2.1 ≤ 2048) : ∃ M' a l c ws, C 34 [.ptr (some (q, 0))] M = some (.sl a l c, M') ∧ OwnRow M M' a l c ws pk := by
  have hE := p34_0_eq C prog.meth (some (q, 0)) M
  simp only [Option.bind_some, List.getElem?_cons_zero, List.getElem?_cons_succ, int?_int, AVal.bool?, AVal.ptr?, AVal.sl?, AVal.tup?, AVal.agg?, AVal.ifc?, AVal.fn?, AVal.str?, List.head?_cons, List.tail_cons, List.isEmpty_nil, cond_true, cond_false, Option.isNone_some, Option.isNone_none, Bool.not_true, Bool.not_false, decide_true, decide_false, beq_self_eq_true, bne_self_eq_false, Int.reduceBEq, Int.reduceBNe, Int.cast_ofNat_Int, qnone_C h, Nat.zero_add, h.ld.2.1] at hE
  obtain ⟨M', a', l', c', ws', s1, s2⟩ := all_loop h hp hsz vs.length 0 M none 0 (.known 0) [] (by omega) (OwnRow.nil M)
  exact ⟨M', a', l', c', ws', c34 (hE.trans s1), s2⟩
end
end Go.Proofs.Ytndolnehppadnaa.M
