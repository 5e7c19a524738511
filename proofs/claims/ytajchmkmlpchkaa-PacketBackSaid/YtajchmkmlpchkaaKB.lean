/- PacketBack. -/
import Derived.Test.YtajchmkmlpchkaaKR
set_option linter.unusedVariables false
set_option linter.unusedSimpArgs false
set_option linter.unnecessarySimpa false
set_option maxRecDepth 100000
namespace Go.Proofs.Ytajchmkmlpchkaa.M
open Go.Abs

/-- A packet behind a memory. -/
structure PB (M0 M : Mem) (p : Nat) (B : List Int) (mv : Nat) : Prop where
  up : M0.Upto M
  np : M0.n ≤ p
  ex : ∃ o a t, IsP M p o B a t mv ∧ M0.n ≤ o
section
variable {M0 M M' : Mem} {p : Nat} {B : List Int} {mv : Nat}
theorem PB.upto (h : PB M0 M p B mv) (hu : M.Upto M') : PB M0 M' p B mv := by
  obtain ⟨o, a, t, h1, h2⟩ := h.ex
  exact ⟨h.up.trans hu, h.np, o, a, t, h1.upto hu, h2⟩
theorem PB.sz (h : PB M0 M p B mv) : B.length ≤ 2048 := by
  obtain ⟨o, a, t, h1, h2⟩ := h.ex
  exact h1.sz
theorem PB.len (h : PB M0 M p B mv) : C 21 [.ptr (some (p, 0))] M = some (.int .i64 (B.length : Int), M) := by
  obtain ⟨o, a, t, h1, h2⟩ := h.ex
  exact PLen_C h1
theorem PB.moves (h : PB M0 M p B mv) : C 19 [.ptr (some (p, 0))] M = some (.int .i64 (mv : Int), M) := by
  obtain ⟨o, a, t, h1, h2⟩ := h.ex
  exact PMoves_C h1
theorem PB.bytes (h : PB M0 M p B mv) : ∃ M' v, C 20 [.ptr (some (p, 0))] M = some (.sl v.1 v.2.1 v.2.2, M') ∧ M.Upto M' ∧ PB M0 M' p B mv ∧ Own1 M' v B ∧ (∀ o ∈ fpS v, M.n ≤ o) ∧ (v.2.1 = 0 → v.2.2 = .known 0) := by
  obtain ⟨o, a, t, h1, h2⟩ := h.ex
  obtain ⟨M', v, c1, u1, o1, f1, z1⟩ := PBytes_F h1
  exact ⟨M', v, c1, u1, h.upto u1, o1, f1, z1⟩
theorem PB.but {fp : List Nat} {p' : Nat} {B' : List Int} {mv' : Nat} (h : PB M0 M p B mv) (hb : Mem.But (· ∈ fp) M M') (hf : ∀ o ∈ fp, M0.n ≤ o) : M0.Upto M' := by
  have := h.up.1
  exact ⟨by have := hb.1; omega, fun o ho => by rw [hb.2 o (by omega) (fun hx => by have := hf o hx; omega), h.up.2 o ho]⟩
theorem PB.head (h : PB M0 M p B mv) {n : Int} (hn : mayE B.length n = 0) (hm : mv < 2 ^ 62) : ∃ M', C 15 [.ptr (some (p, 0)), .int .i64 n] M = some (.int .i64 0, M') ∧ PB M0 M' p (headB B n) (mv + 1) := by
  obtain ⟨o, a, t, h1, h2⟩ := h.ex
  rcases PHead_C h1 n hm with ⟨e, _⟩ | ⟨_, M1, o', c1, q1, n1, b1, f1⟩
  · exact absurd hn e
  · have hup := h.up.1
    have hnp := h.np
    exact ⟨M1, c1, ⟨by omega, fun x hx => by rw [b1.2 x (by omega) (by simp; omega), h.up.2 x hx]⟩, hnp, _, _, _, q1, by omega⟩
theorem PB.tail (h : PB M0 M p B mv) {n : Int} (hn : mayE B.length n = 0) (hm : mv < 2 ^ 62) : ∃ M', C 16 [.ptr (some (p, 0)), .int .i64 n] M = some (.int .i64 0, M') ∧ PB M0 M' p (tailB B n) (mv + 1) := by
  obtain ⟨o, a, t, h1, h2⟩ := h.ex
  rcases PTail_C h1 n hm with ⟨e, _⟩ | ⟨_, M1, o', c1, q1, n1, b1, f1⟩
  · exact absurd hn e
  · have hup := h.up.1
    have hnp := h.np
    exact ⟨M1, c1, ⟨by omega, fun x hx => by rw [b1.2 x (by omega) (by simp; omega), h.up.2 x hx]⟩, hnp, _, _, _, q1, by omega⟩
end
theorem mayE_ok {len : Nat} {n : Int} (h1 : n ≤ 2048 - (len : Int)) (h2 : -(len : Int) ≤ n) : mayE len n = 0 := by
  unfold mayE
  rw [if_neg (by omega), if_neg (by omega)]
theorem headB_nat (B : List Int) (k : Nat) : headB B (k : Int) = List.replicate k 0 ++ B := by unfold headB; rw [if_pos (by omega), Int.toNat_natCast]
theorem headB_neg (B : List Int) (k : Nat) : headB B (-(k : Int)) = B.drop k := by
  unfold headB
  by_cases h : k = 0
  · subst h; simp
  · rw [if_neg (by omega), Int.neg_neg, Int.toNat_natCast]
theorem tailB_nat (B : List Int) (k : Nat) : tailB B (k : Int) = B ++ List.replicate k 0 := by unfold tailB; rw [if_pos (by omega), Int.toNat_natCast]
theorem tailB_neg (B : List Int) (k : Nat) : tailB B (-(k : Int)) = B.take (B.length - k) := by
  unfold tailB
  by_cases h : k = 0
  · subst h; simp
  · rw [if_neg (by omega), Int.neg_neg, Int.toNat_natCast]
section
variable {M0 : Mem} {ba : Option (Nat × Nat)} {bl : Nat} {bc : Cap} {xs : List Int} {p : Nat}
/-- The last loop. -/
theorem back8 (hx : M0.ints .u8 ba bl bc = some xs) (hbl : bl ≤ 1500) {v : SlV} {k : Nat} (hk : k ≤ bl) {M : Mem} (hu : M0.Upto M) (hv : M.bytesAt v = some (List.replicate k 0 ++ xs.drop k)) :
    ∀ (d i : Nat), i + d = bl → p5_8 C prog.meth ba bl bc v.1 v.2.1 v.2.2 (k : Int) i M = some (.bool true, M) := by
  obtain ⟨e1, e2⟩ := ints_iff.1 (ints_upto hx hu)
  obtain ⟨f1, f2⟩ := ints_iff.1 hv
  have hvl : v.2.1 = bl := by rw [← f1]; simp; omega
  intro d
  induction d with
  | zero =>
    intro i hi
    have hE := p5_8_eq C prog.meth ba bl bc v.1 v.2.1 v.2.2 (k : Int) i M
    have h1 : ¬ ((i : Int) < (bl : Int)) := by omega
    simp only [h1, decide_false, cond_false] at hE
    exact hE
  | succ d ih =>
    intro i hi
    have hE := p5_8_eq C prog.meth ba bl bc v.1 v.2.1 v.2.2 (k : Int) i M
    have h1 : ((i : Int) < (bl : Int)) := by omega
    have h0 : (0 : Int) ≤ (i : Int) := by omega
    have h2 : Nat.blt i bl = true := Mem.blt_iff.2 (by omega)
    have h3 : Nat.blt i v.2.1 = true := Mem.blt_iff.2 (by omega)
    have hw : IntKind.wrap .i64 ((i : Int) + 1) = ((i + 1 : Nat) : Int) := by rw [wrap_i64 (by omega) (by omega)]; rfl
    obtain ⟨q1, g1, g2⟩ := e2 i (by omega)
    obtain ⟨q2, k1, k2⟩ := f2 i (by omega)
    rw [List.getElem?_eq_getElem (by omega)] at g2
    by_cases hik : i < k
    · have j1 : ((i : Int) < (k : Int)) := by omega
      have j2 : ¬ ((i : Int) ≥ (k : Int)) := by omega
      rw [List.getElem?_append_left (by simpa using hik), List.getElem?_replicate, if_pos hik] at k2
      simp only [Option.bind_some, List.getElem?_cons_zero, List.getElem?_cons_succ, int?_int, AVal.bool?, AVal.ptr?, AVal.sl?, AVal.tup?, AVal.agg?, AVal.ifc?, AVal.fn?, AVal.str?, List.head?_cons, List.tail_cons, List.isEmpty_nil, cond_true, cond_false, Option.isNone_some, Option.isNone_none, Bool.not_true, Bool.not_false, decide_true, decide_false, beq_self_eq_true, bne_self_eq_false, Int.reduceBEq, Int.reduceBNe, Int.cast_ofNat_Int, h1, j1, j2, h0, Int.toNat_natCast, h3, k1, Nat.mul_one, k2, hw] at hE
      exact hE.trans (ih (i + 1) (by omega))
    · have j1 : ¬ ((i : Int) < (k : Int)) := by omega
      have j2 : ((i : Int) ≥ (k : Int)) := by omega
      rw [List.getElem?_append_right (by simp; omega), List.length_replicate, List.getElem?_drop, show k + (i - k) = i from by omega, List.getElem?_eq_getElem (by omega)] at k2
      have hne : (xs[i]'(by omega) != xs[i]'(by omega)) = false := bne_self_eq_false _
      simp only [Option.bind_some, List.getElem?_cons_zero, List.getElem?_cons_succ, int?_int, AVal.bool?, AVal.ptr?, AVal.sl?, AVal.tup?, AVal.agg?, AVal.ifc?, AVal.fn?, AVal.str?, List.head?_cons, List.tail_cons, List.isEmpty_nil, cond_true, cond_false, Option.isNone_some, Option.isNone_none, Bool.not_true, Bool.not_false, decide_true, decide_false, beq_self_eq_true, bne_self_eq_false, Int.reduceBEq, Int.reduceBNe, Int.cast_ofNat_Int, h1, j1, j2, h0, Int.toNat_natCast, h3, h2, k1, g1, Nat.mul_one, k2, g2, hne, hw] at hE
      exact hE.trans (ih (i + 1) (by omega))
/-- From the sixth on. -/
theorem back6 (hx : M0.ints .u8 ba bl bc = some xs) (hbl : bl ≤ 1500) {r : Nat} (hr : r < 500) {M : Mem} {mv : Nat} (hm : mv < 2 ^ 61) (h : PB M0 M p xs mv) : ∃ M', p5_6 C prog.meth ba bl bc (r : Int) (some (p, 0)) M = some (.bool true, M') := by
  have hxl := ints_length hx
  have hE := p5_6_eq C prog.meth ba bl bc (r : Int) (some (p, 0)) M
  obtain ⟨k, hk, hkl, hkr⟩ : ∃ k : Nat, cond (decide ((bl : Int) < (r : Int))) (bl : Int) (r : Int) = (k : Int) ∧ k ≤ bl ∧ k < 500 := by
    by_cases hb : (bl : Int) < (r : Int)
    · exact ⟨bl, by simp [hb], by omega, by omega⟩
    · exact ⟨r, by simp [hb], by omega, by omega⟩
  have hw : IntKind.wrap .i64 (0 - (k : Int)) = -(k : Int) := by rw [wrap_i64 (by omega) (by omega)]; omega
  obtain ⟨M1, c1, h1⟩ := h.head (n := -(k : Int)) (mayE_ok (by omega) (by omega)) (by omega)
  rw [headB_neg] at h1
  have hdl : (xs.drop k).length = bl - k := by simp; omega
  obtain ⟨M2, c2, h2⟩ := h1.head (n := (k : Int)) (mayE_ok (by omega) (by omega)) (by omega)
  rw [headB_nat] at h2
  have hl2 : (List.replicate k 0 ++ xs.drop k).length = bl := by simp; omega
  have c3 := h2.len
  rw [hl2] at c3
  have hne : ((bl : Int) != (bl : Int)) = false := bne_self_eq_false _
  simp only [Option.bind_some, List.getElem?_cons_zero, List.getElem?_cons_succ, int?_int, AVal.bool?, AVal.ptr?, AVal.sl?, AVal.tup?, AVal.agg?, AVal.ifc?, AVal.fn?, AVal.str?, List.head?_cons, List.tail_cons, List.isEmpty_nil, cond_true, cond_false, Option.isNone_some, Option.isNone_none, Bool.not_true, Bool.not_false, decide_true, decide_false, beq_self_eq_true, bne_self_eq_false, Int.reduceBEq, Int.reduceBNe, Int.cast_ofNat_Int, hk, hw, c1, c2, c3, hne] at hE
  have hE7 := p5_7_eq C prog.meth ba bl bc (some (p, 0)) (k : Int) M2
  obtain ⟨M3, v, c4, u3, h3, o3, f3, z3⟩ := h2.bytes
  simp only [Option.bind_some, List.getElem?_cons_zero, List.getElem?_cons_succ, int?_int, AVal.bool?, AVal.ptr?, AVal.sl?, AVal.tup?, AVal.agg?, AVal.ifc?, AVal.fn?, AVal.str?, List.head?_cons, List.tail_cons, List.isEmpty_nil, cond_true, cond_false, Option.isNone_some, Option.isNone_none, Bool.not_true, Bool.not_false, decide_true, decide_false, beq_self_eq_true, bne_self_eq_false, Int.reduceBEq, Int.reduceBNe, Int.cast_ofNat_Int, c4] at hE7
  have := back8 hx hbl hkl h3.up o3.bytes bl 0 (by omega)
  exact ⟨M3, hE.trans (hE7.trans this)⟩
/-- From the fifth on. -/
theorem back5 (hx : M0.ints .u8 ba bl bc = some xs) (hbl : bl ≤ 1500) {r : Nat} (hr : r < 500) {M : Mem} {v : SlV} (h : PB M0 M p (xs ++ List.replicate r 0) 3) (ho : Own1 M v (xs ++ List.replicate r 0)) (hz : v.2.1 = 0 → v.2.2 = .known 0) :
    ∀ (d i : Nat), i + d = r → ∃ M', p5_5 C prog.meth ba bl bc (r : Int) (some (p, 0)) v.1 v.2.1 v.2.2 i M = some (.bool true, M') := by
  have hxl := ints_length hx
  obtain ⟨f1, f2⟩ := ints_iff.1 ho.bytes
  have hvl : v.2.1 = bl + r := by rw [← f1]; simp; omega
  intro d
  induction d with
  | zero =>
    intro i hi
    have hE := p5_5_eq C prog.meth ba bl bc (r : Int) (some (p, 0)) v.1 v.2.1 v.2.2 i M
    have h1 : ¬ ((i : Int) < (r : Int)) := by omega
    obtain ⟨a2, c2, s1, s2⟩ := ho.to (kk := .i64) hz (n := bl) (by omega)
    have e1 := EqBytes_C s2 (ints_upto hx h.up) (by omega)
    have t1 : (xs ++ List.replicate r 0).take bl = xs := by rw [List.take_append_of_le_length (by omega), List.take_of_length_le (by omega)]
    rw [t1] at e1
    have hw : IntKind.wrap .i64 (0 - (r : Int)) = -(r : Int) := by rw [wrap_i64 (by omega) (by omega)]; omega
    have hbl2 : (xs ++ List.replicate r (0 : Int)).length = bl + r := by simp; omega
    obtain ⟨M1, c1, h1'⟩ := h.tail (n := -(r : Int)) (mayE_ok (by omega) (by omega)) (by omega)
    rw [tailB_neg, hbl2, show bl + r - r = bl from by omega, t1] at h1'
    obtain ⟨M2, w, c3, u2, h2, o2, f2, z2⟩ := h1'.bytes
    have hwl := o2.1
    have e2 := EqBytes_C o2.bytes (ints_upto hx h2.up) (by omega)
    simp only [Option.bind_some, List.getElem?_cons_zero, List.getElem?_cons_succ, int?_int, AVal.bool?, AVal.ptr?, AVal.sl?, AVal.tup?, AVal.agg?, AVal.ifc?, AVal.fn?, AVal.str?, List.head?_cons, List.tail_cons, List.isEmpty_nil, cond_true, cond_false, Option.isNone_some, Option.isNone_none, Bool.not_true, Bool.not_false, decide_true, decide_false, beq_self_eq_true, bne_self_eq_false, Int.reduceBEq, Int.reduceBNe, Int.cast_ofNat_Int, h1, s1, e1, hw, c1, c3, e2, h2.moves] at hE
    obtain ⟨M', q⟩ := back6 hx hbl hr (by omega) h2
    exact ⟨M', hE.trans q⟩
  | succ d ih =>
    intro i hi
    have hE := p5_5_eq C prog.meth ba bl bc (r : Int) (some (p, 0)) v.1 v.2.1 v.2.2 i M
    have h1 : ((i : Int) < (r : Int)) := by omega
    have hw1 : IntKind.wrap .i64 ((bl : Int) + (i : Int)) = ((bl + i : Nat) : Int) := by rw [wrap_i64 (by omega) (by omega)]; rfl
    have h0 : (0 : Int) ≤ ((bl + i : Nat) : Int) := by omega
    have h2 : Nat.blt (bl + i) v.2.1 = true := Mem.blt_iff.2 (by omega)
    have hw : IntKind.wrap .i64 ((i : Int) + 1) = ((i + 1 : Nat) : Int) := by rw [wrap_i64 (by omega) (by omega)]; rfl
    obtain ⟨q2, k1, k2⟩ := f2 (bl + i) (by omega)
    rw [List.getElem?_append_right (by omega), List.getElem?_replicate, if_pos (by omega)] at k2
    simp only [Option.bind_some, List.getElem?_cons_zero, List.getElem?_cons_succ, int?_int, AVal.bool?, AVal.ptr?, AVal.sl?, AVal.tup?, AVal.agg?, AVal.ifc?, AVal.fn?, AVal.str?, List.head?_cons, List.tail_cons, List.isEmpty_nil, cond_true, cond_false, Option.isNone_some, Option.isNone_none, Bool.not_true, Bool.not_false, decide_true, decide_false, beq_self_eq_true, bne_self_eq_false, Int.reduceBEq, Int.reduceBNe, Int.cast_ofNat_Int, h1, hw1, h0, Int.toNat_natCast, h2, k1, Nat.mul_one, k2, hw] at hE
    obtain ⟨M', q⟩ := ih (i + 1) (by omega)
    exact ⟨M', hE.trans q⟩
/-- The first loop. -/
theorem back3 (hx : M0.ints .u8 ba bl bc = some xs) (hbl : bl ≤ 1500) {r : Nat} (hr : r < 500) {v : SlV} {o a t : Nat} (hp : M0.n ≤ p) (hoo : M0.n ≤ o) (hov : o ∉ fpS v) (hz : v.2.1 = 0 → v.2.2 = .known 0) :
    ∀ (d i : Nat) (M : Mem) (B : List Int), i + d = r → M0.Upto M → IsP M p o B a t 1 → B.length = r + bl → B.drop r = xs → Own1 M v (List.replicate r 0 ++ xs) → ∃ M', p5_3 C prog.meth ba bl bc (r : Int) (some (p, 0)) v.1 v.2.1 v.2.2 i M = some (.bool true, M') := by
  have hxl := ints_length hx
  intro d
  induction d with
  | zero =>
    intro i M B hi hu hB hBl hBd ho
    have hE := p5_3_eq C prog.meth ba bl bc (r : Int) (some (p, 0)) v.1 v.2.1 v.2.2 i M
    have h1 : ¬ ((i : Int) < (r : Int)) := by omega
    have hvl : v.2.1 = bl + r := by rw [← ho.1]; simp; omega
    obtain ⟨a2, c2, s1, s2⟩ := ho.from (kk := .i64) hz (n := r) (by omega)
    have e1 := EqBytes_C s2 (ints_upto hx hu) (by omega)
    have t1 : (List.replicate r (0 : Int) ++ xs).drop r = xs := by rw [List.drop_append_of_le_length (by simp), List.drop_eq_nil_of_le (by simp), List.nil_append]
    rw [t1] at e1
    have hw : IntKind.wrap .i64 (0 - (r : Int)) = -(r : Int) := by rw [wrap_i64 (by omega) (by omega)]; omega
    have hw2 : IntKind.wrap .i64 ((bl : Int) + (r : Int)) = ((bl + r : Nat) : Int) := by rw [wrap_i64 (by omega) (by omega)]; rfl
    have h : PB M0 M p B 1 := ⟨hu, hp, o, a, t, hB, hoo⟩
    obtain ⟨M1, c1, h1'⟩ := h.head (n := -(r : Int)) (mayE_ok (by omega) (by omega)) (by omega)
    rw [headB_neg, hBd] at h1'
    obtain ⟨M2, w, c3, u2, h2, o2, f2, z2⟩ := h1'.bytes
    have hwl := o2.1
    have e2 := EqBytes_C o2.bytes (ints_upto hx h2.up) (by omega)
    obtain ⟨M3, c4, h3⟩ := h2.tail (n := (r : Int)) (mayE_ok (by omega) (by omega)) (by omega)
    rw [tailB_nat] at h3
    have c5 := h3.len
    have hbl2 : (xs ++ List.replicate r (0 : Int)).length = bl + r := by simp; omega
    rw [hbl2] at c5
    have hne : (((bl + r : Nat) : Int) != ((bl + r : Nat) : Int)) = false := bne_self_eq_false _
    simp only [Option.bind_some, List.getElem?_cons_zero, List.getElem?_cons_succ, int?_int, AVal.bool?, AVal.ptr?, AVal.sl?, AVal.tup?, AVal.agg?, AVal.ifc?, AVal.fn?, AVal.str?, List.head?_cons, List.tail_cons, List.isEmpty_nil, cond_true, cond_false, Option.isNone_some, Option.isNone_none, Bool.not_true, Bool.not_false, decide_true, decide_false, beq_self_eq_true, bne_self_eq_false, Int.reduceBEq, Int.reduceBNe, Int.cast_ofNat_Int, h1, s1, e1, hw, c1, c3, e2, c4, c5, hw2, hne] at hE
    have hE4 := p5_4_eq C prog.meth ba bl bc (r : Int) (some (p, 0)) M3
    obtain ⟨M4, w4, c6, u4, h4, o4, f4, z4⟩ := h3.bytes
    simp only [Option.bind_some, List.getElem?_cons_zero, List.getElem?_cons_succ, int?_int, AVal.bool?, AVal.ptr?, AVal.sl?, AVal.tup?, AVal.agg?, AVal.ifc?, AVal.fn?, AVal.str?, List.head?_cons, List.tail_cons, List.isEmpty_nil, cond_true, cond_false, Option.isNone_some, Option.isNone_none, Bool.not_true, Bool.not_false, decide_true, decide_false, beq_self_eq_true, bne_self_eq_false, Int.reduceBEq, Int.reduceBNe, Int.cast_ofNat_Int, c6] at hE4
    obtain ⟨M', q⟩ := back5 hx hbl hr h4 o4 z4 r 0 (by omega)
    exact ⟨M', hE.trans (hE4.trans q)⟩
  | succ d ih =>
    intro i M B hi hu hB hBl hBd ho
    have hE := p5_3_eq C prog.meth ba bl bc (r : Int) (some (p, 0)) v.1 v.2.1 v.2.2 i M
    have hvl : v.2.1 = bl + r := by rw [← ho.1]; simp; omega
    obtain ⟨f1, f2⟩ := ints_iff.1 ho.bytes
    have h1 : ((i : Int) < (r : Int)) := by omega
    have h0 : (0 : Int) ≤ (i : Int) := by omega
    have h2 : Nat.blt i v.2.1 = true := Mem.blt_iff.2 (by omega)
    have hw : IntKind.wrap .i64 ((i : Int) + 1) = ((i + 1 : Nat) : Int) := by rw [wrap_i64 (by omega) (by omega)]; rfl
    obtain ⟨q2, k1, k2⟩ := f2 i (by omega)
    rw [List.getElem?_append_left (by simp; omega), List.getElem?_replicate, if_pos (by omega)] at k2
    have hask : askE B.length (i : Int) 1 = 0 := by
      unfold askE
      rw [if_neg (by omega), if_neg (by omega), if_neg (by omega), if_neg (by omega)]
    rcases PStore_C hB (i : Int) 1 255 with ⟨e, _⟩ | ⟨_, M1, c1, q1, n1, b1⟩
    · exact absurd hask e
    · simp only [Option.bind_some, List.getElem?_cons_zero, List.getElem?_cons_succ, int?_int, AVal.bool?, AVal.ptr?, AVal.sl?, AVal.tup?, AVal.agg?, AVal.ifc?, AVal.fn?, AVal.str?, List.head?_cons, List.tail_cons, List.isEmpty_nil, cond_true, cond_false, Option.isNone_some, Option.isNone_none, Bool.not_true, Bool.not_false, decide_true, decide_false, beq_self_eq_true, bne_self_eq_false, Int.reduceBEq, Int.reduceBNe, Int.cast_ofNat_Int, h1, h0, Int.toNat_natCast, h2, k1, Nat.mul_one, k2, c1, hw] at hE
      have hun := hu.1
      have hl := storeB_length (v := 255) hask
      obtain ⟨M', q⟩ := ih (i + 1) M1 _ (by omega) ⟨by omega, fun x hx => by rw [b1.2 x (by omega) (by omega), hu.2 x hx]⟩ q1 (by omega) (by
        unfold storeB
        have e1 : (B.take (i : Int).toNat).length = i := by simp; omega
        have e2 : (stL 1 255 (1 : Int).toNat 0 ((B.drop (i : Int).toNat).take (1 : Int).toNat)).length = 1 := by rw [stL_length]; simp; omega
        rw [List.drop_append, e1, List.drop_append, e2, List.drop_eq_nil_of_le (by omega), List.nil_append, List.drop_eq_nil_of_le (by omega), List.nil_append, List.drop_drop, ← hBd]
        congr 1
        simp; omega) (ho.same (fun x hx => b1.2 x (ho.lt x hx) (fun e => hov (by subst e; exact hx))))
      exact ⟨M', hE.trans q⟩
theorem back1 (hx : M0.ints .u8 ba bl bc = some xs) (hbl : bl ≤ 1500) {n r0 r1 : Int} {box : Nat} {M : Mem} (hu : M0.Upto M) (hg : M.get box = some ⟨[.int .i64 r0, .int .i64 r1], .fixed⟩) :
    ∃ M', p5_1 C prog.meth ba bl bc n box M = some (.bool true, M') := by
  have hxl := ints_length hx
  have hE := p5_1_eq C prog.meth ba bl bc n box M
  obtain ⟨r, hr, br⟩ := Bring_C (i := n) (n := 500) (M := Mem.empty) (by omega) (by omega)
  obtain ⟨s0, h0, b0⟩ := Bring_C (i := r0) (n := 257) (M := Mem.empty) (by omega) (by omega)
  obtain ⟨s1, h1, b1⟩ := Bring_C (i := r1) (n := 257) (M := Mem.empty) (by omega) (by omega)
  have i0 : M.ldI .i64 box (0 + 0 * 1) = some r0 := ldI_ld.2 (by rw [ld_fix hg]; rfl)
  have i1 : M.ldI .i64 box (0 + 1 * 1) = some r1 := ldI_ld.2 (by rw [ld_fix hg]; rfl)
  obtain ⟨M1, c1, u1, q1⟩ := PNew_C (hd := s0) (tl := s1) (ints_upto hx hu) (by omega) (by omega) (by omega)
  have hun := hu.1
  have h1 : PB M0 M1 M.n xs 0 := ⟨hu.trans u1, hun, _, _, _, q1, by omega⟩
  obtain ⟨M2, c2, h2⟩ := h1.head (n := (r : Int)) (mayE_ok (by omega) (by omega)) (by omega)
  rw [headB_nat] at h2
  have c3 := h2.len
  have hlen : (List.replicate r (0 : Int) ++ xs).length = bl + r := by simp; omega
  rw [hlen] at c3
  have hw2 : IntKind.wrap .i64 ((bl : Int) + (r : Int)) = ((bl + r : Nat) : Int) := by rw [wrap_i64 (by omega) (by omega)]; rfl
  have hne : (((bl + r : Nat) : Int) != ((bl + r : Nat) : Int)) = false := bne_self_eq_false _
  simp only [Option.bind_some, List.getElem?_cons_zero, List.getElem?_cons_succ, int?_int, AVal.bool?, AVal.ptr?, AVal.sl?, AVal.tup?, AVal.agg?, AVal.ifc?, AVal.fn?, AVal.str?, List.head?_cons, List.tail_cons, List.isEmpty_nil, cond_true, cond_false, Option.isNone_some, Option.isNone_none, Bool.not_true, Bool.not_false, decide_true, decide_false, beq_self_eq_true, bne_self_eq_false, Int.reduceBEq, Int.reduceBNe, Int.cast_ofNat_Int, br, i0, b0, i1, b1, c1, c2, c3, hw2, hne] at hE
  have hE2 := p5_2_eq C prog.meth ba bl bc (r : Int) (some (M.n, 0)) M2
  obtain ⟨M3, v, c4, u3, h3, o3, f3, z3⟩ := h2.bytes
  simp only [Option.bind_some, List.getElem?_cons_zero, List.getElem?_cons_succ, int?_int, AVal.bool?, AVal.ptr?, AVal.sl?, AVal.tup?, AVal.agg?, AVal.ifc?, AVal.fn?, AVal.str?, List.head?_cons, List.tail_cons, List.isEmpty_nil, cond_true, cond_false, Option.isNone_some, Option.isNone_none, Bool.not_true, Bool.not_false, decide_true, decide_false, beq_self_eq_true, bne_self_eq_false, Int.reduceBEq, Int.reduceBNe, Int.cast_ofNat_Int, c4] at hE2
  obtain ⟨o, a, t, hp, hoo⟩ := h2.ex
  have hol := hp.lt
  obtain ⟨M', q⟩ := back3 (p := M.n) hx hbl (r := r) (by omega) (v := v) (o := o) (a := a) (t := t) hun hoo (fun hx => by have := f3 o hx; omega) z3 r 0 M3 _ (by omega) h3.up (hp.upto u3) (by rw [hlen]; omega) (by rw [List.drop_append_of_le_length (by simp), List.drop_eq_nil_of_le (by simp), List.nil_append]) o3
  exact ⟨M', hE.trans (hE2.trans q)⟩
end
theorem PacketBack_C {M0 : Mem} {ba : Option (Nat × Nat)} {bl : Nat} {bc : Cap} {xs : List Int} {n r0 r1 : Int} (hs : Shows M0 (.sl 1 [.int .u8]) (.sl ba bl bc)) (hx : M0.ints .u8 ba bl bc = some xs) :
    ∃ M', C 5 [.sl ba bl bc, .int .i64 n, .agg [.int .i64 r0, .int .i64 r1]] M0 = some (.bool true, M') := by
  have hE := p5_0_eq C prog.meth ba bl bc n r0 r1 M0
  obtain ⟨Ma, hawake⟩ := awake03_C
  have u1 := Mem.Upto.alloc M0 ⟨[.int .i64 r0, .int .i64 r1], .fixed⟩
  have g1 := get_alloc_self M0 ⟨[.int .i64 r0, .int .i64 r1], .fixed⟩
  generalize M0.alloc ⟨[.int .i64 r0, .int .i64 r1], .fixed⟩ = M1 at hE u1 g1
  by_cases hl : (bl : Int) > 1500
  · obtain ⟨k1, k2⟩ := cut_arg (n := 1500) (kh := .i64) hs hx (by omega) (by omega) (Mem.Upto.refl M0)
    obtain ⟨k3, _⟩ := cut_arg (n := 1500) (kh := .i64) hs hx (by omega) (by omega) u1
    have k1' : ∀ {β : Type} (K : Option (Nat × Nat) → Nat → Cap → Option β), slcK false 1 ba bl bc M1 none (some (.int .i64 1500)) none K = K ba 1500 bc := fun K => k3 K
    simp only [Option.bind_some, List.getElem?_cons_zero, List.getElem?_cons_succ, int?_int, AVal.bool?, AVal.ptr?, AVal.sl?, AVal.tup?, AVal.agg?, AVal.ifc?, AVal.fn?, AVal.str?, List.head?_cons, List.tail_cons, List.isEmpty_nil, cond_true, cond_false, Option.isNone_some, Option.isNone_none, Bool.not_true, Bool.not_false, decide_true, decide_false, beq_self_eq_true, bne_self_eq_false, Int.reduceBEq, Int.reduceBNe, Int.cast_ofNat_Int, hawake, hl, k1'] at hE
    obtain ⟨M', q⟩ := back1 k2 (Nat.le_refl _) (n := n) u1 g1
    exact ⟨M', c5 (hE.trans q)⟩
  · simp only [Option.bind_some, List.getElem?_cons_zero, List.getElem?_cons_succ, int?_int, AVal.bool?, AVal.ptr?, AVal.sl?, AVal.tup?, AVal.agg?, AVal.ifc?, AVal.fn?, AVal.str?, List.head?_cons, List.tail_cons, List.isEmpty_nil, cond_true, cond_false, Option.isNone_some, Option.isNone_none, Bool.not_true, Bool.not_false, decide_true, decide_false, beq_self_eq_true, bne_self_eq_false, Int.reduceBEq, Int.reduceBNe, Int.cast_ofNat_Int, hawake, hl] at hE
    obtain ⟨M', q⟩ := back1 hx (by omega) (n := n) u1 g1
    exact ⟨M', c5 (hE.trans q)⟩
theorem PacketBack_law : ∀ avs M, M.Whole → okL M.n avs → ShowsArgs M [(false, [.sl 1 [.int .u8]]), (false, [.int .i64]), (true, [.int .i64, .int .i64])] avs → ∃ M', C 5 avs M = some (.bool true, M') := by
  intro avs M hM hok h
  simp only [ShowsArgs, ShowsArg] at h
  obtain ⟨v, _, rfl, ⟨t, ht, hv⟩, w, _, rfl, ⟨t', ht', hw⟩, z, _, rfl, ⟨ws, rfl, hz⟩, rfl⟩ := h
  obtain rfl : t = .sl 1 [.int .u8] := by simpa using ht.symm
  obtain rfl : t' = .int .i64 := by simpa using ht'.symm
  obtain ⟨a, l, c, xs, rfl, hx, hl, hwf⟩ := hv.ints
  simp only [Shows] at hw
  obtain ⟨n, rfl, hn⟩ := hw
  simp only [ShowsR, Shows] at hz
  obtain ⟨v1, w1, rfl, ⟨x, rfl, wx⟩, v2, w2, rfl, ⟨y, rfl, wy⟩, rfl⟩ := hz
  exact PacketBack_C hv hx
end Go.Proofs.Ytajchmkmlpchkaa.M
