/- The reference packet. -/
import Derived.Test.YtfdlmneofbcpnaaKL
import Derived.Test.YtfdlmneofbcpnaaBS
set_option linter.unusedVariables false
set_option linter.unusedSimpArgs false
set_option linter.unnecessarySimpa false
set_option maxRecDepth 100000
namespace Go.Proofs.Ytfdlmneofbcpnaa.M
open Go.Abs

/-- The reference packet (at m): bytes, room ahead and behind, moves. -/
structure IsRP (M : Mem) (m : Nat) (v : SlV) (B : List Int) (a t mv : Nat) : Prop where
  gm : M.get m = some ⟨[.sl v.1 v.2.1 v.2.2, .int .i64 (a : Int), .int .i64 (t : Int), .int .i64 (mv : Int)], .fixed⟩
  bs : BkS M v B
  ne : m ∉ fpS v
  z : v.2.1 = 0 → v.2.2 = .known 0
  sz : B.length ≤ 2048
  ra : a ≤ 4096 ∧ t ≤ 4096
section
variable {M M' : Mem} {m : Nat} {v : SlV} {B : List Int} {a t mv : Nat}
theorem IsRP.same (h : IsRP M m v B a t mv) (h1 : M'.get m = M.get m) (h2 : ∀ o ∈ fpS v, M'.get o = M.get o) : IsRP M' m v B a t mv := ⟨h1.trans h.gm, h.bs.same h2, h.ne, h.z, h.sz, h.ra⟩
theorem IsRP.lt (h : IsRP M m v B a t mv) : m < M.n ∧ ∀ o ∈ fpS v, o < M.n := ⟨Mem.get_lt h.gm, h.bs.lt⟩
theorem IsRP.upto (h : IsRP M m v B a t mv) (hu : M.Upto M') : IsRP M' m v B a t mv := h.same (hu.2 _ h.lt.1) (fun o ho => hu.2 o (h.lt.2 o ho))
theorem IsRP.ld (h : IsRP M m v B a t mv) : M.ldL m 0 = some v ∧ M.ldI .i64 m 1 = some (a : Int) ∧ M.ldI .i64 m 2 = some (t : Int) ∧ M.ldI .i64 m 3 = some (mv : Int) := by
  have g := h.gm
  refine ⟨?_, ldI_ld.2 (by rw [ld_fix g]; rfl), ldI_ld.2 (by rw [ld_fix g]; rfl), ldI_ld.2 (by rw [ld_fix g]; rfl)⟩
  unfold Mem.ldL; rw [ld_fix g]; rfl
theorem RMay_C (h : IsRP M m v B a t mv) (n : Int) : C 57 [.ptr (some (m, 0)), .int .i64 n] M = some (.int .i64 (mayE B.length n), M) := by
  have hE := p57_0_eq C prog.meth (some (m, 0)) n M
  have h1 := h.sz
  have hl := h.bs.len
  have hw1 : IntKind.wrap .i64 (2048 - (v.2.1 : Int)) = 2048 - (v.2.1 : Int) := wrap_i64 (by omega) (by omega)
  have hw2 : IntKind.wrap .i64 (0 - (v.2.1 : Int)) = -(v.2.1 : Int) := by rw [wrap_i64 (by omega) (by omega)]; omega
  simp only [Option.bind_some, List.getElem?_cons_zero, List.getElem?_cons_succ, int?_int, AVal.bool?, AVal.ptr?, AVal.sl?, AVal.tup?, AVal.agg?, AVal.ifc?, AVal.fn?, AVal.str?, List.head?_cons, List.tail_cons, List.isEmpty_nil, cond_true, cond_false, Option.isNone_some, Option.isNone_none, Bool.not_true, Bool.not_false, decide_true, decide_false, beq_self_eq_true, bne_self_eq_false, Int.reduceBEq, Int.reduceBNe, Int.cast_ofNat_Int, Nat.zero_add, h.ld.1, hw1, hw2] at hE
  refine c57 (hE.trans ?_)
  unfold mayE
  rw [hl]
  by_cases h2 : n > 2048 - (v.2.1 : Int)
  · simp [h2]
  · by_cases h3 : n < -(v.2.1 : Int)
    · simp [h2, h3]
    · simp [h2, h3]
theorem RPNew_C {ba : Option (Nat × Nat)} {bl : Nat} {bc : Cap} {xs : List Int} {hd tl : Nat} (hx : M.ints .u8 ba bl bc = some xs) (h1 : bl ≤ 2048) (h2 : hd ≤ 256) (h3 : tl ≤ 256) :
    ∃ M' m v, C 53 [.sl ba bl bc, .int .i64 (hd : Int), .int .i64 (tl : Int)] M = some (.tup [.ptr (some (m, 0)), .int .i64 0], M') ∧ M.Upto M' ∧ IsRP M' m v xs hd tl 0 ∧ M.n ≤ m ∧ (∀ o ∈ fpS v, M.n ≤ o) := by
  have hE := p53_0_eq C prog.meth ba bl bc hd tl M
  have e1 : ¬ ((bl : Int) > 2048) := by omega
  have e2 : ¬ ((hd : Int) < 0) := by omega
  have e3 : ¬ ((hd : Int) > 256) := by omega
  have e4 : ¬ ((tl : Int) < 0) := by omega
  have e5 : ¬ ((tl : Int) > 256) := by omega
  simp only [e1, e2, e3, e4, e5, decide_false, cond_false] at hE
  rw [p53_1_eq] at hE
  obtain ⟨M1, v, c1, u1, o1, f1, z1⟩ := CopyBytes_F hx (by omega)
  have hxl := ints_length hx
  have u2 := Mem.Upto.alloc M1 ⟨[.sl v.1 v.2.1 v.2.2, .int .i64 (hd : Int), .int .i64 (tl : Int), .int .i64 0], .fixed⟩
  have hl := o1.lt
  simp only [Option.bind_some, List.getElem?_cons_zero, List.getElem?_cons_succ, int?_int, AVal.bool?, AVal.ptr?, AVal.sl?, AVal.tup?, AVal.agg?, AVal.ifc?, AVal.fn?, AVal.str?, List.head?_cons, List.tail_cons, List.isEmpty_nil, cond_true, cond_false, Option.isNone_some, Option.isNone_none, Bool.not_true, Bool.not_false, decide_true, decide_false, beq_self_eq_true, bne_self_eq_false, Int.reduceBEq, Int.reduceBNe, Int.cast_ofNat_Int, c1] at hE
  exact ⟨_, _, v, c53 hE, u1.trans u2, ⟨get_alloc_self _ _, (BkS.own o1).same (fun o ho => u2.2 o (hl o ho)), fun ho => by have := hl _ ho; omega, z1, by omega, ⟨by omega, by omega⟩⟩, u1.1, f1⟩
/-- Behind a move: room and moves. -/
theorem rmoved {x : AVal} {A T : Int} (hg : M.get m = some ⟨[x, .int .i64 A, .int .i64 T, .int .i64 (mv : Int)], .fixed⟩) (hm : mv < 2 ^ 62) :
    M.ldI .i64 m 3 = some (mv : Int) ∧ ∃ M', M.st m 3 [.int .i64 (IntKind.wrap .i64 ((mv : Int) + 1))] = some M' ∧ M'.get m = some ⟨[x, .int .i64 A, .int .i64 T, .int .i64 ((mv + 1 : Nat) : Int)], .fixed⟩ ∧ M'.n = M.n ∧ Mem.But (· = m) M M' := by
  have hw : IntKind.wrap .i64 ((mv : Int) + 1) = ((mv + 1 : Nat) : Int) := by rw [wrap_i64 (by omega) (by omega)]; rfl
  have s1 := st_fix (i := 3) (vs := [.int .i64 ((mv + 1 : Nat) : Int)]) hg (by simp)
  rw [overL_one] at s1
  exact ⟨ldI_ld.2 (by rw [ld_fix hg]; rfl), _, by rw [hw]; exact s1, get_put_self (Mem.get_lt hg), rfl, Mem.But.put _ _ _⟩
/-- Head's last part. -/
theorem rhead1 {x : AVal} {n : Int} (hg : M.get m = some ⟨[x, .int .i64 (a : Int), .int .i64 (t : Int), .int .i64 (mv : Int)], .fixed⟩) (hm : mv < 2 ^ 62) (h1 : a ≤ 4096) (h2 : -4096 ≤ n) :
    ∃ M', p40_1 C prog.meth (some (m, 0)) n M = some (.int .i64 0, M') ∧ M'.get m = some ⟨[x, .int .i64 ((if n > a then 64 else (a - n).toNat : Nat) : Int), .int .i64 ((if n > a then 64 else t : Nat) : Int), .int .i64 ((mv + 1 : Nat) : Int)], .fixed⟩ ∧ M'.n = M.n ∧ Mem.But (· = m) M M' := by
  have hE := p40_1_eq C prog.meth (some (m, 0)) n M
  have hE2 := fun M => p40_2_eq C prog.meth (some (m, 0)) M
  have hml := Mem.get_lt hg
  have l1 : M.ldI .i64 m 1 = some (a : Int) := ldI_ld.2 (by rw [ld_fix hg]; rfl)
  by_cases hn : n > (a : Int)
  · have s1 := st_fix (i := 1) (vs := [.int .i64 64]) hg (by simp)
    rw [overL_one] at s1
    have g1 : (M.put m ⟨[x, AVal.int .i64 (a : Int), .int .i64 (t : Int), .int .i64 (mv : Int)].set 1 (.int .i64 64), .fixed⟩).get m = some ⟨[x, .int .i64 64, .int .i64 (t : Int), .int .i64 (mv : Int)], .fixed⟩ := get_put_self hml
    have b1 := Mem.But.put M m ⟨[x, AVal.int .i64 (a : Int), .int .i64 (t : Int), .int .i64 (mv : Int)].set 1 (.int .i64 64), .fixed⟩
    have n1 : (M.put m ⟨[x, AVal.int .i64 (a : Int), .int .i64 (t : Int), .int .i64 (mv : Int)].set 1 (.int .i64 64), .fixed⟩).n = M.n := rfl
    generalize M.put m ⟨[x, AVal.int .i64 (a : Int), .int .i64 (t : Int), .int .i64 (mv : Int)].set 1 (.int .i64 64), .fixed⟩ = M1 at s1 g1 b1 n1
    have s2 := st_fix (i := 2) (vs := [.int .i64 64]) g1 (by simp)
    rw [overL_one] at s2
    have g2 : (M1.put m ⟨[x, AVal.int .i64 64, .int .i64 (t : Int), .int .i64 (mv : Int)].set 2 (.int .i64 64), .fixed⟩).get m = some ⟨[x, .int .i64 64, .int .i64 64, .int .i64 (mv : Int)], .fixed⟩ := get_put_self (Mem.get_lt g1)
    have b2 := Mem.But.put M1 m ⟨[x, AVal.int .i64 64, .int .i64 (t : Int), .int .i64 (mv : Int)].set 2 (.int .i64 64), .fixed⟩
    have n2 : (M1.put m ⟨[x, AVal.int .i64 64, .int .i64 (t : Int), .int .i64 (mv : Int)].set 2 (.int .i64 64), .fixed⟩).n = M1.n := rfl
    generalize M1.put m ⟨[x, AVal.int .i64 64, .int .i64 (t : Int), .int .i64 (mv : Int)].set 2 (.int .i64 64), .fixed⟩ = M2 at s2 g2 b2 n2
    obtain ⟨m1, M3, m2, m3, m4, m5⟩ := rmoved g2 hm
    have hE2 := hE2 M2
    simp only [Option.bind_some, List.getElem?_cons_zero, List.getElem?_cons_succ, int?_int, AVal.bool?, AVal.ptr?, AVal.sl?, AVal.tup?, AVal.agg?, AVal.ifc?, AVal.fn?, AVal.str?, List.head?_cons, List.tail_cons, List.isEmpty_nil, cond_true, cond_false, Option.isNone_some, Option.isNone_none, Bool.not_true, Bool.not_false, decide_true, decide_false, beq_self_eq_true, bne_self_eq_false, Int.reduceBEq, Int.reduceBNe, Int.cast_ofNat_Int, Nat.zero_add, m1, m2] at hE2
    simp only [Option.bind_some, List.getElem?_cons_zero, List.getElem?_cons_succ, int?_int, AVal.bool?, AVal.ptr?, AVal.sl?, AVal.tup?, AVal.agg?, AVal.ifc?, AVal.fn?, AVal.str?, List.head?_cons, List.tail_cons, List.isEmpty_nil, cond_true, cond_false, Option.isNone_some, Option.isNone_none, Bool.not_true, Bool.not_false, decide_true, decide_false, beq_self_eq_true, bne_self_eq_false, Int.reduceBEq, Int.reduceBNe, Int.cast_ofNat_Int, Nat.zero_add, l1, hn, s1, s2] at hE
    rw [if_pos hn, if_pos hn]
    exact ⟨M3, hE.trans hE2, m3, by omega, (b1.trans b2 (fun _ _ h => h)).trans m5 (fun _ _ h => h)⟩
  · obtain ⟨a', ha'⟩ : ∃ a' : Nat, (a' : Int) = a - n := ⟨(a - n).toNat, by omega⟩
    have hw : IntKind.wrap .i64 ((a : Int) - n) = (a' : Int) := by rw [wrap_i64 (by omega) (by omega)]; omega
    have s1 := st_fix (i := 1) (vs := [.int .i64 (a' : Int)]) hg (by simp)
    rw [overL_one] at s1
    have g1 : (M.put m ⟨[x, AVal.int .i64 (a : Int), .int .i64 (t : Int), .int .i64 (mv : Int)].set 1 (.int .i64 (a' : Int)), .fixed⟩).get m = some ⟨[x, .int .i64 (a' : Int), .int .i64 (t : Int), .int .i64 (mv : Int)], .fixed⟩ := get_put_self hml
    have b1 := Mem.But.put M m ⟨[x, AVal.int .i64 (a : Int), .int .i64 (t : Int), .int .i64 (mv : Int)].set 1 (.int .i64 (a' : Int)), .fixed⟩
    have n1 : (M.put m ⟨[x, AVal.int .i64 (a : Int), .int .i64 (t : Int), .int .i64 (mv : Int)].set 1 (.int .i64 (a' : Int)), .fixed⟩).n = M.n := rfl
    generalize M.put m ⟨[x, AVal.int .i64 (a : Int), .int .i64 (t : Int), .int .i64 (mv : Int)].set 1 (.int .i64 (a' : Int)), .fixed⟩ = M1 at s1 g1 b1 n1
    obtain ⟨m1, M3, m2, m3, m4, m5⟩ := rmoved g1 hm
    have hE2 := hE2 M1
    simp only [Option.bind_some, List.getElem?_cons_zero, List.getElem?_cons_succ, int?_int, AVal.bool?, AVal.ptr?, AVal.sl?, AVal.tup?, AVal.agg?, AVal.ifc?, AVal.fn?, AVal.str?, List.head?_cons, List.tail_cons, List.isEmpty_nil, cond_true, cond_false, Option.isNone_some, Option.isNone_none, Bool.not_true, Bool.not_false, decide_true, decide_false, beq_self_eq_true, bne_self_eq_false, Int.reduceBEq, Int.reduceBNe, Int.cast_ofNat_Int, Nat.zero_add, m1, m2] at hE2
    simp only [Option.bind_some, List.getElem?_cons_zero, List.getElem?_cons_succ, int?_int, AVal.bool?, AVal.ptr?, AVal.sl?, AVal.tup?, AVal.agg?, AVal.ifc?, AVal.fn?, AVal.str?, List.head?_cons, List.tail_cons, List.isEmpty_nil, cond_true, cond_false, Option.isNone_some, Option.isNone_none, Bool.not_true, Bool.not_false, decide_true, decide_false, beq_self_eq_true, bne_self_eq_false, Int.reduceBEq, Int.reduceBNe, Int.cast_ofNat_Int, Nat.zero_add, l1, hn, hw, s1] at hE
    have ea : (if n > (a : Int) then 64 else ((a : Int) - n).toNat) = a' := by rw [if_neg hn]; omega
    rw [ea, if_neg hn]
    exact ⟨M3, hE.trans hE2, m3, by omega, b1.trans m5 (fun _ _ h => h)⟩
theorem RHead_C (h : IsRP M m v B a t mv) (n : Int) (hm : mv < 2 ^ 62) (hra : a ≤ 4096 ∧ t ≤ 4096) (hsm : a + B.length ≤ 4096) :
    (mayE B.length n ≠ 0 ∧ C 40 [.ptr (some (m, 0)), .int .i64 n] M = some (.int .i64 (mayE B.length n), M)) ∨
    (mayE B.length n = 0 ∧ ∃ M' v', C 40 [.ptr (some (m, 0)), .int .i64 n] M = some (.int .i64 0, M') ∧ IsRP M' m v' (headB B n) (if n > a then 64 else (a - n).toNat) (if n > a then 64 else t) (mv + 1) ∧ M.n ≤ M'.n ∧ Mem.But (· = m) M M' ∧ (∀ o ∈ fpS v', M.n ≤ o)) := by
  have hE := p40_0_eq C prog.meth (some (m, 0)) n M
  simp only [Option.bind_some, List.getElem?_cons_zero, List.getElem?_cons_succ, int?_int, AVal.bool?, AVal.ptr?, AVal.sl?, AVal.tup?, AVal.agg?, AVal.ifc?, AVal.fn?, AVal.str?, List.head?_cons, List.tail_cons, List.isEmpty_nil, cond_true, cond_false, Option.isNone_some, Option.isNone_none, Bool.not_true, Bool.not_false, decide_true, decide_false, beq_self_eq_true, bne_self_eq_false, Int.reduceBEq, Int.reduceBNe, Int.cast_ofNat_Int, RMay_C h n] at hE
  by_cases he : mayE B.length n = 0
  rotate_left
  · have : (mayE B.length n != 0) = true := by simp [he]
    rw [this, cond_true] at hE
    exact .inl ⟨he, c40 hE⟩
  refine .inr ⟨he, ?_⟩
  have : (mayE B.length n != 0) = false := by simp [he]
  rw [this, cond_false] at hE
  have hb : n ≤ 2048 - (B.length : Int) ∧ -(B.length : Int) ≤ n := by
    unfold mayE at he
    split at he
    · omega
    · split at he
      · omega
      · omega
  have hl := h.bs.len
  have hsz := h.sz
  have hml := h.lt.1
  have nra : (if n > (a : Int) then 64 else ((a : Int) - n).toNat) ≤ 4096 ∧ (if n > (a : Int) then 64 else t) ≤ 4096 := by
    split <;> omega
  by_cases h0 : 0 ≤ n
  · obtain ⟨k, rfl⟩ : ∃ k : Nat, n = (k : Int) := ⟨n.toNat, by omega⟩
    have hge : (k : Int) ≥ 0 := by omega
    have b1 : Nat.ble k k = true := ble_iff.2 (Nat.le_refl _)
    have b2 : Nat.ble (1 * k) (2 ^ 47) = true := ble_iff.2 (by omega)
    have hld1 : (M.alloc ⟨replZ [.int .u8 0] k, .fixed⟩).ldL m 0 = some v := (h.upto (Mem.Upto.alloc _ _)).ld.1
    obtain ⟨a2, c2, M2, s1, s2, u2, s4, s5⟩ := h.bs.frontN (n := k) (by omega)
    have g2 := u2.get h.gm
    have st1 := st_fix (i := 0) (vs := [.sl a2 (k + v.2.1) c2]) g2 (by simp)
    rw [overL_one] at st1
    have g3 : (M2.put m ⟨[AVal.sl v.1 v.2.1 v.2.2, .int .i64 (a : Int), .int .i64 (t : Int), .int .i64 (mv : Int)].set 0 (.sl a2 (k + v.2.1) c2), .fixed⟩).get m = some ⟨[.sl a2 (k + v.2.1) c2, .int .i64 (a : Int), .int .i64 (t : Int), .int .i64 (mv : Int)], .fixed⟩ := get_put_self (Mem.get_lt g2)
    have bb := Mem.But.put M2 m ⟨[AVal.sl v.1 v.2.1 v.2.2, .int .i64 (a : Int), .int .i64 (t : Int), .int .i64 (mv : Int)].set 0 (.sl a2 (k + v.2.1) c2), .fixed⟩
    have n3 : (M2.put m ⟨[AVal.sl v.1 v.2.1 v.2.2, .int .i64 (a : Int), .int .i64 (t : Int), .int .i64 (mv : Int)].set 0 (.sl a2 (k + v.2.1) c2), .fixed⟩).n = M2.n := rfl
    generalize M2.put m ⟨[AVal.sl v.1 v.2.1 v.2.2, .int .i64 (a : Int), .int .i64 (t : Int), .int .i64 (mv : Int)].set 0 (.sl a2 (k + v.2.1) c2), .fixed⟩ = M3 at st1 g3 bb n3
    obtain ⟨M4, r1, r2, r3, r4⟩ := rhead1 (n := (k : Int)) g3 hm h.ra.1 (by omega)
    simp only [Option.bind_some, List.getElem?_cons_zero, List.getElem?_cons_succ, int?_int, AVal.bool?, AVal.ptr?, AVal.sl?, AVal.tup?, AVal.agg?, AVal.ifc?, AVal.fn?, AVal.str?, List.head?_cons, List.tail_cons, List.isEmpty_nil, cond_true, cond_false, Option.isNone_some, Option.isNone_none, Bool.not_true, Bool.not_false, decide_true, decide_false, beq_self_eq_true, bne_self_eq_false, Int.reduceBEq, Int.reduceBNe, Int.cast_ofNat_Int, hge, h0, Int.toNat_natCast, b1, b2, Bool.and_self, Nat.zero_add, hld1, s1, st1] at hE
    have hq : headB B (k : Int) = List.replicate k 0 ++ B := by unfold headB; rw [if_pos (by omega), Int.toNat_natCast]
    have hnu := u2.1
    have b4 := bb.trans r4 (fun _ _ h => h)
    refine ⟨M4, (a2, k + v.2.1, c2), c40 (hE.trans r1), ?_, by omega, (u2.but _).trans b4 (fun _ _ h => h), fun o ho => (s4 o ho).1⟩
    rw [hq]
    exact ⟨r2, s2.same (fun o ho => b4.2 o (s4 o ho).2 (by have := (s4 o ho).1; omega)), fun ho => by have := (s4 _ ho).1; omega, s5, by simp; omega, nra⟩
  · obtain ⟨k, hk⟩ : ∃ k : Nat, (k : Int) = -n := ⟨(-n).toNat, by omega⟩
    have hw : IntKind.wrap .i64 (0 - n) = (k : Int) := by rw [wrap_i64 (by omega) (by omega)]; omega
    have hge : ¬ (n ≥ 0) := by omega
    obtain ⟨a1, c1, s1, s2⟩ := h.bs.cutFrom (kk := .i64) h.z (n := k) (by omega)
    obtain ⟨M2, w, cc, u2, o2, f2, z2⟩ := CopyBytes_F s2 (by omega)
    have hwl := o2.lt
    have g2 := u2.get h.gm
    have st1 := st_fix (i := 0) (vs := [.sl w.1 w.2.1 w.2.2]) g2 (by simp)
    rw [overL_one] at st1
    have g3 : (M2.put m ⟨[AVal.sl v.1 v.2.1 v.2.2, .int .i64 (a : Int), .int .i64 (t : Int), .int .i64 (mv : Int)].set 0 (.sl w.1 w.2.1 w.2.2), .fixed⟩).get m = some ⟨[.sl w.1 w.2.1 w.2.2, .int .i64 (a : Int), .int .i64 (t : Int), .int .i64 (mv : Int)], .fixed⟩ := get_put_self (Mem.get_lt g2)
    have bb := Mem.But.put M2 m ⟨[AVal.sl v.1 v.2.1 v.2.2, .int .i64 (a : Int), .int .i64 (t : Int), .int .i64 (mv : Int)].set 0 (.sl w.1 w.2.1 w.2.2), .fixed⟩
    have n3 : (M2.put m ⟨[AVal.sl v.1 v.2.1 v.2.2, .int .i64 (a : Int), .int .i64 (t : Int), .int .i64 (mv : Int)].set 0 (.sl w.1 w.2.1 w.2.2), .fixed⟩).n = M2.n := rfl
    generalize M2.put m ⟨[AVal.sl v.1 v.2.1 v.2.2, .int .i64 (a : Int), .int .i64 (t : Int), .int .i64 (mv : Int)].set 0 (.sl w.1 w.2.1 w.2.2), .fixed⟩ = M3 at st1 g3 bb n3
    obtain ⟨M4, r1, r2, r3, r4⟩ := rhead1 (n := n) g3 hm h.ra.1 (by omega)
    simp only [Option.bind_some, List.getElem?_cons_zero, List.getElem?_cons_succ, int?_int, AVal.bool?, AVal.ptr?, AVal.sl?, AVal.tup?, AVal.agg?, AVal.ifc?, AVal.fn?, AVal.str?, List.head?_cons, List.tail_cons, List.isEmpty_nil, cond_true, cond_false, Option.isNone_some, Option.isNone_none, Bool.not_true, Bool.not_false, decide_true, decide_false, beq_self_eq_true, bne_self_eq_false, Int.reduceBEq, Int.reduceBNe, Int.cast_ofNat_Int, hge, Nat.zero_add, h.ld.1, hw, s1, cc, st1] at hE
    have hq : headB B n = B.drop k := by unfold headB; rw [if_neg h0]; congr 1; omega
    have hnu := u2.1
    have b4 := bb.trans r4 (fun _ _ h => h)
    refine ⟨M4, w, c40 (hE.trans r1), ?_, by omega, (u2.but _).trans b4 (fun _ _ h => h), f2⟩
    rw [hq]
    exact ⟨r2, (BkS.own o2).same (fun o ho => b4.2 o (hwl o ho) (by have := f2 o ho; omega)), fun ho => by have := f2 _ ho; omega, z2, by simp; omega, nra⟩
/-- Tail's last part. -/
theorem rtail1 {x : AVal} {n : Int} (hg : M.get m = some ⟨[x, .int .i64 (a : Int), .int .i64 (t : Int), .int .i64 (mv : Int)], .fixed⟩) (hm : mv < 2 ^ 62) (h1 : t ≤ 4096) (h2 : -4096 ≤ n) :
    ∃ M', p41_1 C prog.meth (some (m, 0)) n M = some (.int .i64 0, M') ∧ M'.get m = some ⟨[x, .int .i64 ((if n > t then 64 else a : Nat) : Int), .int .i64 ((if n > t then 64 else (t - n).toNat : Nat) : Int), .int .i64 ((mv + 1 : Nat) : Int)], .fixed⟩ ∧ M'.n = M.n ∧ Mem.But (· = m) M M' := by
  have hE := p41_1_eq C prog.meth (some (m, 0)) n M
  have hE2 := fun M => p41_2_eq C prog.meth (some (m, 0)) M
  have hml := Mem.get_lt hg
  have l1 : M.ldI .i64 m 2 = some (t : Int) := ldI_ld.2 (by rw [ld_fix hg]; rfl)
  by_cases hn : n > (t : Int)
  · have s1 := st_fix (i := 1) (vs := [.int .i64 64]) hg (by simp)
    rw [overL_one] at s1
    have g1 : (M.put m ⟨[x, AVal.int .i64 (a : Int), .int .i64 (t : Int), .int .i64 (mv : Int)].set 1 (.int .i64 64), .fixed⟩).get m = some ⟨[x, .int .i64 64, .int .i64 (t : Int), .int .i64 (mv : Int)], .fixed⟩ := get_put_self hml
    have b1 := Mem.But.put M m ⟨[x, AVal.int .i64 (a : Int), .int .i64 (t : Int), .int .i64 (mv : Int)].set 1 (.int .i64 64), .fixed⟩
    have n1 : (M.put m ⟨[x, AVal.int .i64 (a : Int), .int .i64 (t : Int), .int .i64 (mv : Int)].set 1 (.int .i64 64), .fixed⟩).n = M.n := rfl
    generalize M.put m ⟨[x, AVal.int .i64 (a : Int), .int .i64 (t : Int), .int .i64 (mv : Int)].set 1 (.int .i64 64), .fixed⟩ = M1 at s1 g1 b1 n1
    have s2 := st_fix (i := 2) (vs := [.int .i64 64]) g1 (by simp)
    rw [overL_one] at s2
    have g2 : (M1.put m ⟨[x, AVal.int .i64 64, .int .i64 (t : Int), .int .i64 (mv : Int)].set 2 (.int .i64 64), .fixed⟩).get m = some ⟨[x, .int .i64 64, .int .i64 64, .int .i64 (mv : Int)], .fixed⟩ := get_put_self (Mem.get_lt g1)
    have b2 := Mem.But.put M1 m ⟨[x, AVal.int .i64 64, .int .i64 (t : Int), .int .i64 (mv : Int)].set 2 (.int .i64 64), .fixed⟩
    have n2 : (M1.put m ⟨[x, AVal.int .i64 64, .int .i64 (t : Int), .int .i64 (mv : Int)].set 2 (.int .i64 64), .fixed⟩).n = M1.n := rfl
    generalize M1.put m ⟨[x, AVal.int .i64 64, .int .i64 (t : Int), .int .i64 (mv : Int)].set 2 (.int .i64 64), .fixed⟩ = M2 at s2 g2 b2 n2
    obtain ⟨m1, M3, m2, m3, m4, m5⟩ := rmoved g2 hm
    have hE2 := hE2 M2
    simp only [Option.bind_some, List.getElem?_cons_zero, List.getElem?_cons_succ, int?_int, AVal.bool?, AVal.ptr?, AVal.sl?, AVal.tup?, AVal.agg?, AVal.ifc?, AVal.fn?, AVal.str?, List.head?_cons, List.tail_cons, List.isEmpty_nil, cond_true, cond_false, Option.isNone_some, Option.isNone_none, Bool.not_true, Bool.not_false, decide_true, decide_false, beq_self_eq_true, bne_self_eq_false, Int.reduceBEq, Int.reduceBNe, Int.cast_ofNat_Int, Nat.zero_add, m1, m2] at hE2
    simp only [Option.bind_some, List.getElem?_cons_zero, List.getElem?_cons_succ, int?_int, AVal.bool?, AVal.ptr?, AVal.sl?, AVal.tup?, AVal.agg?, AVal.ifc?, AVal.fn?, AVal.str?, List.head?_cons, List.tail_cons, List.isEmpty_nil, cond_true, cond_false, Option.isNone_some, Option.isNone_none, Bool.not_true, Bool.not_false, decide_true, decide_false, beq_self_eq_true, bne_self_eq_false, Int.reduceBEq, Int.reduceBNe, Int.cast_ofNat_Int, Nat.zero_add, l1, hn, s1, s2] at hE
    rw [if_pos hn, if_pos hn]
    exact ⟨M3, hE.trans hE2, m3, by omega, (b1.trans b2 (fun _ _ h => h)).trans m5 (fun _ _ h => h)⟩
  · obtain ⟨a', ha'⟩ : ∃ a' : Nat, (a' : Int) = t - n := ⟨(t - n).toNat, by omega⟩
    have hw : IntKind.wrap .i64 ((t : Int) - n) = (a' : Int) := by rw [wrap_i64 (by omega) (by omega)]; omega
    have s1 := st_fix (i := 2) (vs := [.int .i64 (a' : Int)]) hg (by simp)
    rw [overL_one] at s1
    have g1 : (M.put m ⟨[x, AVal.int .i64 (a : Int), .int .i64 (t : Int), .int .i64 (mv : Int)].set 2 (.int .i64 (a' : Int)), .fixed⟩).get m = some ⟨[x, .int .i64 (a : Int), .int .i64 (a' : Int), .int .i64 (mv : Int)], .fixed⟩ := get_put_self hml
    have b1 := Mem.But.put M m ⟨[x, AVal.int .i64 (a : Int), .int .i64 (t : Int), .int .i64 (mv : Int)].set 2 (.int .i64 (a' : Int)), .fixed⟩
    have n1 : (M.put m ⟨[x, AVal.int .i64 (a : Int), .int .i64 (t : Int), .int .i64 (mv : Int)].set 2 (.int .i64 (a' : Int)), .fixed⟩).n = M.n := rfl
    generalize M.put m ⟨[x, AVal.int .i64 (a : Int), .int .i64 (t : Int), .int .i64 (mv : Int)].set 2 (.int .i64 (a' : Int)), .fixed⟩ = M1 at s1 g1 b1 n1
    obtain ⟨m1, M3, m2, m3, m4, m5⟩ := rmoved g1 hm
    have hE2 := hE2 M1
    simp only [Option.bind_some, List.getElem?_cons_zero, List.getElem?_cons_succ, int?_int, AVal.bool?, AVal.ptr?, AVal.sl?, AVal.tup?, AVal.agg?, AVal.ifc?, AVal.fn?, AVal.str?, List.head?_cons, List.tail_cons, List.isEmpty_nil, cond_true, cond_false, Option.isNone_some, Option.isNone_none, Bool.not_true, Bool.not_false, decide_true, decide_false, beq_self_eq_true, bne_self_eq_false, Int.reduceBEq, Int.reduceBNe, Int.cast_ofNat_Int, Nat.zero_add, m1, m2] at hE2
    simp only [Option.bind_some, List.getElem?_cons_zero, List.getElem?_cons_succ, int?_int, AVal.bool?, AVal.ptr?, AVal.sl?, AVal.tup?, AVal.agg?, AVal.ifc?, AVal.fn?, AVal.str?, List.head?_cons, List.tail_cons, List.isEmpty_nil, cond_true, cond_false, Option.isNone_some, Option.isNone_none, Bool.not_true, Bool.not_false, decide_true, decide_false, beq_self_eq_true, bne_self_eq_false, Int.reduceBEq, Int.reduceBNe, Int.cast_ofNat_Int, Nat.zero_add, l1, hn, hw, s1] at hE
    have ea : (if n > (t : Int) then 64 else ((t : Int) - n).toNat) = a' := by rw [if_neg hn]; omega
    rw [ea, if_neg hn]
    exact ⟨M3, hE.trans hE2, m3, by omega, b1.trans m5 (fun _ _ h => h)⟩
/-- What stands ahead. -/
theorem BkS.cutTo {xs : List Int} {n : Nat} {kk : IntKind} (h : BkS M v xs) (hz : v.2.1 = 0 → v.2.2 = .known 0) (hn : n ≤ v.2.1) :
    ∃ a2 c2, (∀ {β : Type} (K : Option (Nat × Nat) → Nat → Cap → Option β), slcK false 1 v.1 v.2.1 v.2.2 M none (some (.int kk (n : Int))) none K = K a2 n c2) ∧ M.ints .u8 a2 n c2 = some (xs.take n) := by
  by_cases h0 : v.2.1 = 0
  · obtain rfl : n = 0 := by omega
    rw [hz h0, h0]
    exact ⟨_, _, fun K => slcK_known_to (Nat.le_refl _), rfl⟩
  · obtain ⟨s1, s2, _⟩ := h.cut (n := n) (kk := kk) (by omega) hn
    exact ⟨_, _, fun K => s1 K, s2.bytes⟩
theorem RTail_C (h : IsRP M m v B a t mv) (n : Int) (hm : mv < 2 ^ 62) (hsm : t + B.length ≤ 4096) :
    (mayE B.length n ≠ 0 ∧ C 41 [.ptr (some (m, 0)), .int .i64 n] M = some (.int .i64 (mayE B.length n), M)) ∨
    (mayE B.length n = 0 ∧ ∃ M' v', C 41 [.ptr (some (m, 0)), .int .i64 n] M = some (.int .i64 0, M') ∧ IsRP M' m v' (tailB B n) (if n > t then 64 else a) (if n > t then 64 else (t - n).toNat) (mv + 1) ∧ M.n ≤ M'.n ∧ Mem.But (· = m) M M' ∧ (∀ o ∈ fpS v', M.n ≤ o)) := by
  have hE := p41_0_eq C prog.meth (some (m, 0)) n M
  simp only [Option.bind_some, List.getElem?_cons_zero, List.getElem?_cons_succ, int?_int, AVal.bool?, AVal.ptr?, AVal.sl?, AVal.tup?, AVal.agg?, AVal.ifc?, AVal.fn?, AVal.str?, List.head?_cons, List.tail_cons, List.isEmpty_nil, cond_true, cond_false, Option.isNone_some, Option.isNone_none, Bool.not_true, Bool.not_false, decide_true, decide_false, beq_self_eq_true, bne_self_eq_false, Int.reduceBEq, Int.reduceBNe, Int.cast_ofNat_Int, RMay_C h n] at hE
  by_cases he : mayE B.length n = 0
  rotate_left
  · have : (mayE B.length n != 0) = true := by simp [he]
    rw [this, cond_true] at hE
    exact .inl ⟨he, c41 hE⟩
  refine .inr ⟨he, ?_⟩
  have : (mayE B.length n != 0) = false := by simp [he]
  rw [this, cond_false] at hE
  have hb : n ≤ 2048 - (B.length : Int) ∧ -(B.length : Int) ≤ n := by
    unfold mayE at he
    split at he
    · omega
    · split at he
      · omega
      · omega
  have hl := h.bs.len
  have hsz := h.sz
  have hml := h.lt.1
  have hra := h.ra
  have nra : (if n > (t : Int) then 64 else a) ≤ 4096 ∧ (if n > (t : Int) then 64 else ((t : Int) - n).toNat) ≤ 4096 := by
    split <;> omega
  -- behind the new bytes
  have fin : ∀ (M2 : Mem) (w : SlV) (B' : List Int), M.n ≤ M2.n → Mem.But (fun o => M.n ≤ o) M M2 → Own1 M2 w B' → (∀ o ∈ fpS w, M.n ≤ o) → (w.2.1 = 0 → w.2.2 = .known 0) → B'.length ≤ 2048 → ∃ M3 M4, M2.st m 0 [.sl w.1 w.2.1 w.2.2] = some M3 ∧ p41_1 C prog.meth (some (m, 0)) n M3 = some (.int .i64 0, M4) ∧ IsRP M4 m w B' (if n > t then 64 else a) (if n > t then 64 else (t - n).toNat) (mv + 1) ∧ M.n ≤ M4.n ∧ Mem.But (· = m) M M4 := by
    intro M2 w B' hn2 hb2 ho hf hz hB'
    have hwl := ho.lt
    have g2 : M2.get m = _ := hb2.get h.gm (by omega)
    have st1 := st_fix (i := 0) (vs := [.sl w.1 w.2.1 w.2.2]) g2 (by simp)
    rw [overL_one] at st1
    have g3 : (M2.put m ⟨[AVal.sl v.1 v.2.1 v.2.2, .int .i64 (a : Int), .int .i64 (t : Int), .int .i64 (mv : Int)].set 0 (.sl w.1 w.2.1 w.2.2), .fixed⟩).get m = some ⟨[.sl w.1 w.2.1 w.2.2, .int .i64 (a : Int), .int .i64 (t : Int), .int .i64 (mv : Int)], .fixed⟩ := get_put_self (Mem.get_lt g2)
    have bb := Mem.But.put M2 m ⟨[AVal.sl v.1 v.2.1 v.2.2, .int .i64 (a : Int), .int .i64 (t : Int), .int .i64 (mv : Int)].set 0 (.sl w.1 w.2.1 w.2.2), .fixed⟩
    have n3 : (M2.put m ⟨[AVal.sl v.1 v.2.1 v.2.2, .int .i64 (a : Int), .int .i64 (t : Int), .int .i64 (mv : Int)].set 0 (.sl w.1 w.2.1 w.2.2), .fixed⟩).n = M2.n := rfl
    generalize M2.put m ⟨[AVal.sl v.1 v.2.1 v.2.2, .int .i64 (a : Int), .int .i64 (t : Int), .int .i64 (mv : Int)].set 0 (.sl w.1 w.2.1 w.2.2), .fixed⟩ = M3 at st1 g3 bb n3
    obtain ⟨M4, r1, r2, r3, r4⟩ := rtail1 (n := n) g3 hm h.ra.2 (by omega)
    have b4 := bb.trans r4 (fun _ _ h => h)
    exact ⟨M3, M4, st1, r1, ⟨r2, (BkS.own ho).same (fun o hx => b4.2 o (hwl o hx) (by have := hf o hx; omega)), fun hx => by have := hf _ hx; omega, hz, hB', nra⟩, by omega, ⟨by omega, fun o hx hne => by rw [b4.2 o (by omega) hne, hb2.2 o hx (by omega)]⟩⟩
  by_cases h0 : 0 ≤ n
  · obtain ⟨k, rfl⟩ : ∃ k : Nat, n = (k : Int) := ⟨n.toNat, by omega⟩
    have hge : (k : Int) ≥ 0 := by omega
    obtain ⟨M1, w, cc, u1, o1, f1, z1⟩ := CopyBytes_F (M := M) (a := v.1) (l := v.2.1) (c := v.2.2) h.bs.bytes (by omega)
    have hwl := o1.1
    have hn1 := u1.1
    obtain ⟨a2, c2, M2, s1, s2, s3, s4, s5, s6⟩ := o1.zeros z1 (n := k) (by omega)
    have b2 : Nat.ble (w.2.1 + k) (2 ^ 47) = true := ble_iff.2 (by omega)
    obtain ⟨M3, M4, q1, q2, q3, q4, q5⟩ := fin M2 (a2, w.2.1 + k, c2) _ (by omega) ⟨by omega, fun o ho hne => by rw [s4.2 o (by omega) (fun hx => hne (f1 o hx)), u1.2 o ho]⟩ s2 (fun o ho => by rcases s5 o ho with hx | hx; exact f1 o hx; omega) s6 (by simp; omega)
    have hq : tailB B (k : Int) = B ++ List.replicate k 0 := by unfold tailB; rw [if_pos (by omega), Int.toNat_natCast]
    simp only [Option.bind_some, List.getElem?_cons_zero, List.getElem?_cons_succ, int?_int, AVal.bool?, AVal.ptr?, AVal.sl?, AVal.tup?, AVal.agg?, AVal.ifc?, AVal.fn?, AVal.str?, List.head?_cons, List.tail_cons, List.isEmpty_nil, cond_true, cond_false, Option.isNone_some, Option.isNone_none, Bool.not_true, Bool.not_false, decide_true, decide_false, beq_self_eq_true, bne_self_eq_false, Int.reduceBEq, Int.reduceBNe, Int.cast_ofNat_Int, hge, h0, Int.toNat_natCast, Nat.zero_add, h.ld.1, cc, b2, s1, q1] at hE
    rw [hq]
    exact ⟨M4, (a2, w.2.1 + k, c2), c41 (hE.trans q2), q3, q4, q5, fun o ho => by rcases s5 o ho with hx | hx; exact f1 o hx; omega⟩
  · obtain ⟨k, hk⟩ : ∃ k : Nat, (k : Int) = v.2.1 + n := ⟨(v.2.1 + n).toNat, by omega⟩
    have hw : IntKind.wrap .i64 ((v.2.1 : Int) + n) = (k : Int) := by rw [wrap_i64 (by omega) (by omega)]; omega
    have hge : ¬ (n ≥ 0) := by omega
    obtain ⟨a1, c1, s1, s2⟩ := h.bs.cutTo (kk := .i64) h.z (n := k) (by omega)
    obtain ⟨M2, w, cc, u2, o2, f2, z2⟩ := CopyBytes_F s2 (by omega)
    obtain ⟨M3, M4, q1, q2, q3, q4, q5⟩ := fin M2 w _ u2.1 (u2.but _) o2 f2 z2 (by simp; omega)
    have hq : tailB B n = B.take k := by unfold tailB; rw [if_neg h0]; congr 1; omega
    simp only [Option.bind_some, List.getElem?_cons_zero, List.getElem?_cons_succ, int?_int, AVal.bool?, AVal.ptr?, AVal.sl?, AVal.tup?, AVal.agg?, AVal.ifc?, AVal.fn?, AVal.str?, List.head?_cons, List.tail_cons, List.isEmpty_nil, cond_true, cond_false, Option.isNone_some, Option.isNone_none, Bool.not_true, Bool.not_false, decide_true, decide_false, beq_self_eq_true, bne_self_eq_false, Int.reduceBEq, Int.reduceBNe, Int.cast_ofNat_Int, hge, Nat.zero_add, h.ld.1, hw, s1, cc, q1] at hE
    rw [hq]
    exact ⟨M4, w, c41 (hE.trans q2), q3, q4, q5, f2⟩
theorem RAsked_C (h : IsRP M m v B a t mv) (at_ size : Int) : C 60 [.ptr (some (m, 0)), .int .i64 at_, .int .i64 size] M = some (.int .i64 (askE B.length at_ size), M) := by
  have hE := p60_0_eq C prog.meth (some (m, 0)) at_ size M
  have hE1 := p60_1_eq C prog.meth (some (m, 0)) at_ size M
  have h1 := h.sz
  have hl := h.bs.len
  refine c60 (hE.trans ?_)
  unfold askE
  by_cases h2 : size < 1
  · simp [h2]
  by_cases h3 : size > 8
  · simp [h2, h3]
  simp only [h2, h3, decide_false, cond_false, if_false]
  refine hE1.trans ?_
  by_cases h4 : at_ < 0
  · simp [h4]
  have hw : IntKind.wrap .i64 ((v.2.1 : Int) - size) = (B.length : Int) - size := by rw [wrap_i64 (by omega) (by omega)]; omega
  simp only [Option.bind_some, List.getElem?_cons_zero, List.getElem?_cons_succ, int?_int, AVal.bool?, AVal.ptr?, AVal.sl?, AVal.tup?, AVal.agg?, AVal.ifc?, AVal.fn?, AVal.str?, List.head?_cons, List.tail_cons, List.isEmpty_nil, cond_true, cond_false, Option.isNone_some, Option.isNone_none, Bool.not_true, Bool.not_false, decide_true, decide_false, beq_self_eq_true, bne_self_eq_false, Int.reduceBEq, Int.reduceBNe, Int.cast_ofNat_Int, h4, Nat.zero_add, h.ld.1, hw]
  by_cases h5 : at_ > (B.length : Int) - size
  · simp [h4, h5]
  · simp [h4, h5]
def ldR (v c : Int) : Int := IntKind.wrap .u64 ((IntKind.wrap .u64 (v * 256)) + (IntKind.wrap .u64 c))
theorem rload_loop (h : IsRP M m v B a t mv) {k n : Nat} (hk : k + n ≤ B.length) : ∀ (d i : Nat) (x : Int), i + d = n →
    p54_1 C prog.meth (some (m, 0)) (k : Int) (n : Int) x i M = some (.tup [.int .u64 ((((B.drop k).take n).drop i).foldl ldR x), .int .i64 0], M) := by
  have hl := h.bs.len
  have hsz := h.sz
  obtain ⟨e1, e2⟩ := ints_iff.1 h.bs.bytes
  intro d
  induction d with
  | zero =>
    intro i x hi
    have hE := p54_1_eq C prog.meth (some (m, 0)) (k : Int) (n : Int) x i M
    have h1 : ¬ ((i : Int) < (n : Int)) := by omega
    simp only [Option.bind_some, List.getElem?_cons_zero, List.getElem?_cons_succ, int?_int, AVal.bool?, AVal.ptr?, AVal.sl?, AVal.tup?, AVal.agg?, AVal.ifc?, AVal.fn?, AVal.str?, List.head?_cons, List.tail_cons, List.isEmpty_nil, cond_true, cond_false, Option.isNone_some, Option.isNone_none, Bool.not_true, Bool.not_false, decide_true, decide_false, beq_self_eq_true, bne_self_eq_false, Int.reduceBEq, Int.reduceBNe, Int.cast_ofNat_Int, h1] at hE
    rw [hE, List.drop_eq_nil_of_le (by simp; omega)]; rfl
  | succ d ih =>
    intro i x hi
    have hE := p54_1_eq C prog.meth (some (m, 0)) (k : Int) (n : Int) x i M
    have h1 : ((i : Int) < (n : Int)) := by omega
    have hw : IntKind.wrap .i64 ((k : Int) + (i : Int)) = ((k + i : Nat) : Int) := by rw [wrap_i64 (by omega) (by omega)]; rfl
    have hw2 : IntKind.wrap .i64 ((i : Int) + 1) = ((i + 1 : Nat) : Int) := by rw [wrap_i64 (by omega) (by omega)]; rfl
    have h0 : (0 : Int) ≤ ((k + i : Nat) : Int) := by omega
    have h2 : Nat.blt (k + i) v.2.1 = true := Mem.blt_iff.2 (by omega)
    obtain ⟨q, hq, hqv⟩ := e2 (k + i) (by omega)
    rw [List.getElem?_eq_getElem (by omega)] at hqv
    simp only [Option.bind_some, List.getElem?_cons_zero, List.getElem?_cons_succ, int?_int, AVal.bool?, AVal.ptr?, AVal.sl?, AVal.tup?, AVal.agg?, AVal.ifc?, AVal.fn?, AVal.str?, List.head?_cons, List.tail_cons, List.isEmpty_nil, cond_true, cond_false, Option.isNone_some, Option.isNone_none, Bool.not_true, Bool.not_false, decide_true, decide_false, beq_self_eq_true, bne_self_eq_false, Int.reduceBEq, Int.reduceBNe, Int.cast_ofNat_Int, h1, Nat.zero_add, h.ld.1, hw, h0, Int.toNat_natCast, h2, hq, Nat.mul_one, hqv, hw2] at hE
    have hlen : i < ((B.drop k).take n).length := by simp; omega
    rw [List.drop_eq_getElem_cons hlen, List.foldl_cons]
    have hg : ((B.drop k).take n)[i]'hlen = B[k + i]'(by omega) := by simp
    rw [hg]
    exact hE.trans (ih (i + 1) (ldR x (B[k + i]'(by omega))) (by omega))
theorem RLoad_C (h : IsRP M m v B a t mv) (at_ size : Int) :
    (askE B.length at_ size ≠ 0 ∧ C 54 [.ptr (some (m, 0)), .int .i64 at_, .int .i64 size] M = some (.tup [.int .u64 0, .int .i64 (askE B.length at_ size)], M)) ∨
    (askE B.length at_ size = 0 ∧ C 54 [.ptr (some (m, 0)), .int .i64 at_, .int .i64 size] M = some (.tup [.int .u64 (((B.drop at_.toNat).take size.toNat).foldl ldR 0), .int .i64 0], M)) := by
  have hE := p54_0_eq C prog.meth (some (m, 0)) at_ size M
  simp only [Option.bind_some, List.getElem?_cons_zero, List.getElem?_cons_succ, int?_int, AVal.bool?, AVal.ptr?, AVal.sl?, AVal.tup?, AVal.agg?, AVal.ifc?, AVal.fn?, AVal.str?, List.head?_cons, List.tail_cons, List.isEmpty_nil, cond_true, cond_false, Option.isNone_some, Option.isNone_none, Bool.not_true, Bool.not_false, decide_true, decide_false, beq_self_eq_true, bne_self_eq_false, Int.reduceBEq, Int.reduceBNe, Int.cast_ofNat_Int, RAsked_C h at_ size] at hE
  by_cases he : askE B.length at_ size = 0
  rotate_left
  · have : (askE B.length at_ size != 0) = true := by simp [he]
    rw [this, cond_true] at hE
    exact .inl ⟨he, c54 hE⟩
  refine .inr ⟨he, ?_⟩
  have hb := askE_zero he
  have : (askE B.length at_ size != 0) = false := by simp [he]
  rw [this, cond_false] at hE
  obtain ⟨k, rfl⟩ : ∃ k : Nat, at_ = (k : Int) := ⟨at_.toNat, by omega⟩
  obtain ⟨n, rfl⟩ : ∃ n : Nat, size = (n : Int) := ⟨size.toNat, by omega⟩
  have := rload_loop h (k := k) (n := n) (by omega) n 0 0 (by omega)
  rw [List.drop_zero] at this
  exact c54 (hE.trans this)
/-- What Store writes, from behind. -/
def stR (k : Nat) : Nat → Int → List Int → List Int
  | 0, _, B => B
  | d + 1, V, B => stR k d (IntKind.wrap .u64 (Int.tdiv V 256)) (B.set (k + d) (IntKind.wrap .u8 (Int.tmod V 256)))
theorem stR_length (k : Nat) : ∀ (d : Nat) (V : Int) (B : List Int), (stR k d V B).length = B.length
  | 0, _, _ => rfl
  | d + 1, V, B => by rw [stR, stR_length]; simp
theorem rstore_loop {k : Nat} : ∀ (d : Nat) (V : Int) (M : Mem) (B : List Int), IsRP M m v B a t mv → k + d ≤ B.length →
    ∃ M', p56_1 C prog.meth (some (m, 0)) (k : Int) V ((d : Int) - 1) M = some (.int .i64 0, M') ∧ IsRP M' m v (stR k d V B) a t mv ∧ M'.n = M.n ∧ Mem.But (· ∈ fpS v) M M' := by
  intro d
  induction d with
  | zero =>
    intro V M B h hk
    have hE := p56_1_eq C prog.meth (some (m, 0)) (k : Int) V (((0 : Nat) : Int) - 1) M
    have h1 : ¬ ((((0 : Nat) : Int) - 1) ≥ 0) := by omega
    simp only [h1, decide_false, cond_false] at hE
    exact ⟨M, hE, h, rfl, Mem.But.refl _ _⟩
  | succ d ih =>
    intro V M B h hk
    have hl := h.bs.len
    have hsz := h.sz
    have e0 : (((d + 1 : Nat) : Int) - 1) = (d : Int) := by omega
    rw [e0]
    have hE := p56_1_eq C prog.meth (some (m, 0)) (k : Int) V (d : Int) M
    have h1 : ((d : Int) ≥ 0) := by omega
    have hw : IntKind.wrap .i64 ((k : Int) + (d : Int)) = ((k + d : Nat) : Int) := by rw [wrap_i64 (by omega) (by omega)]; rfl
    have hw2 : IntKind.wrap .i64 ((d : Int) - 1) = (d : Int) - 1 := wrap_i64 (by omega) (by omega)
    have h0 : (0 : Int) ≤ ((k + d : Nat) : Int) := by omega
    have h2 : Nat.blt (k + d) v.2.1 = true := Mem.blt_iff.2 (by omega)
    obtain ⟨o, M1, s1, s2, s3, s4, s5, s6⟩ := h.bs.put (i := k + d) (y := IntKind.wrap .u8 (Int.tmod V 256)) (by omega)
    have hm1 : IsRP M1 m v (B.set (k + d) (IntKind.wrap .u8 (Int.tmod V 256))) a t mv := ⟨by rw [s5.2 m h.lt.1 (fun e => h.ne (by rw [e]; exact s6))]; exact h.gm, s3, h.ne, h.z, by rw [List.length_set]; exact h.sz, h.ra⟩
    simp only [Option.bind_some, List.getElem?_cons_zero, List.getElem?_cons_succ, int?_int, AVal.bool?, AVal.ptr?, AVal.sl?, AVal.tup?, AVal.agg?, AVal.ifc?, AVal.fn?, AVal.str?, List.head?_cons, List.tail_cons, List.isEmpty_nil, cond_true, cond_false, Option.isNone_some, Option.isNone_none, Bool.not_true, Bool.not_false, decide_true, decide_false, beq_self_eq_true, bne_self_eq_false, Int.reduceBEq, Int.reduceBNe, Int.cast_ofNat_Int, h1, Nat.zero_add, h.ld.1, hw, h0, Int.toNat_natCast, h2, s1, Nat.mul_one, s2, hw2] at hE
    obtain ⟨M', q1, q2, q3, q4⟩ := ih (IntKind.wrap .u64 (Int.tdiv V 256)) M1 _ hm1 (by rw [List.length_set]; omega)
    exact ⟨M', hE.trans q1, q2, by omega, (s5.mono (fun x hx => by rw [hx]; exact s6)).trans q4 (fun _ _ h => h)⟩
theorem RStore_C (h : IsRP M m v B a t mv) (at_ size V : Int) :
    (askE B.length at_ size ≠ 0 ∧ C 56 [.ptr (some (m, 0)), .int .i64 at_, .int .i64 size, .int .u64 V] M = some (.int .i64 (askE B.length at_ size), M)) ∨
    (askE B.length at_ size = 0 ∧ ∃ M', C 56 [.ptr (some (m, 0)), .int .i64 at_, .int .i64 size, .int .u64 V] M = some (.int .i64 0, M') ∧ IsRP M' m v (stR at_.toNat size.toNat V B) a t mv ∧ M'.n = M.n ∧ Mem.But (· ∈ fpS v) M M') := by
  have hE := p56_0_eq C prog.meth (some (m, 0)) at_ size V M
  simp only [Option.bind_some, List.getElem?_cons_zero, List.getElem?_cons_succ, int?_int, AVal.bool?, AVal.ptr?, AVal.sl?, AVal.tup?, AVal.agg?, AVal.ifc?, AVal.fn?, AVal.str?, List.head?_cons, List.tail_cons, List.isEmpty_nil, cond_true, cond_false, Option.isNone_some, Option.isNone_none, Bool.not_true, Bool.not_false, decide_true, decide_false, beq_self_eq_true, bne_self_eq_false, Int.reduceBEq, Int.reduceBNe, Int.cast_ofNat_Int, RAsked_C h at_ size] at hE
  by_cases he : askE B.length at_ size = 0
  rotate_left
  · have : (askE B.length at_ size != 0) = true := by simp [he]
    rw [this, cond_true] at hE
    exact .inl ⟨he, c56 hE⟩
  refine .inr ⟨he, ?_⟩
  have hb := askE_zero he
  have : (askE B.length at_ size != 0) = false := by simp [he]
  rw [this, cond_false] at hE
  obtain ⟨k, rfl⟩ : ∃ k : Nat, at_ = (k : Int) := ⟨at_.toNat, by omega⟩
  obtain ⟨n, rfl⟩ : ∃ n : Nat, size = (n : Int) := ⟨size.toNat, by omega⟩
  have hw : IntKind.wrap .i64 ((n : Int) - 1) = (n : Int) - 1 := wrap_i64 (by omega) (by omega)
  rw [hw] at hE
  obtain ⟨M', q1, q2, q3, q4⟩ := rstore_loop (k := k) n V M B h (by omega)
  exact ⟨M', c56 (hE.trans q1), q2, q3, q4⟩
end
end Go.Proofs.Ytfdlmneofbcpnaa.M
