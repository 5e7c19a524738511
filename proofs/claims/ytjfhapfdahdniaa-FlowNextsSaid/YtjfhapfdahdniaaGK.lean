/- FlowNexts. -/
import Derived.Test.YtjfhapfdahdniaaGJ
import Derived.Test.YtjfhapfdahdniaaGG
set_option linter.unusedVariables false
set_option linter.unusedSimpArgs false
set_option linter.unnecessarySimpa false
set_option maxRecDepth 100000
namespace Go.Proofs.Ytjfhapfdahdniaa.M
open Go.Abs Go.RowKit

section
variable {xs : List Ins} {M M0 M1 : Mem} {a : Option (Nat × Nat)} {l : Nat} {c : Cap} {s : Nat}
def mk200 : Ins := (200, 0, 0, 0, 0)
theorem spare_C (hx : Sl M 5 encI a l c xs) (hl : l * 12 + 36 ≤ 2 ^ 47) : ∃ M' o, C 8 [.sl a l c] M = some (.sl (some (o, 0)) l (.unk 0), M') ∧ M.Upto M' ∧ M'.get o = some ⟨(xs ++ [mk200, mk200, mk200]).flatMap encI, .grow 5⟩ := by
  have hE := p8_0_eq C prog.meth a l c M
  have hlen := hx.2
  obtain ⟨M1, a1, c1, r1, r2, r3, r4, r5⟩ := (Row.nil M 5 encI).cat (bytes := 12) encI5 (by omega) hx (by omega) (by simp [fpOf])
  rw [r1, Nat.zero_add] at hE
  rw [Nat.zero_add, List.nil_append] at r2
  have f1 : ∀ o ∈ fpOf a1, M.n ≤ o := fun o ho => by
    rcases (r5 o ho).1 with h | h
    · simp [fpOf] at h
    · exact h
  have u1 : M.Upto M1 := up_but (Mem.Upto.refl _) r4 (fun o ho => by simp [fpOf] at ho)
  have h0 := p8_1_eq C prog.meth a l c a1 l c1 0 M1
  obtain ⟨M2, s1, s2, s3, s4, s5⟩ := r2.push (bytes := 12) (y := mk200) (cs := [.int .u8 200, .int .u8 0, .int .u8 0, .int .i16 0, .int .i32 0]) encI5 (by omega) rfl (by omega)
  have u2 : M.Upto M2 := up_but u1 s4 f1
  have h1 := p8_1_eq C prog.meth a l c (some (M1.n + 1, 0)) (l + 1) (.unk 0) 1 M2
  obtain ⟨M3, t1, t2, t3, t4, t5⟩ := s2.push (bytes := 12) (y := mk200) (cs := [.int .u8 200, .int .u8 0, .int .u8 0, .int .i16 0, .int .i32 0]) encI5 (by omega) rfl (by omega)
  have u3 : M.Upto M3 := up_but u2 t4 (fun o ho => by have := u1.1; simp [fpOf] at ho; omega)
  have h2 := p8_1_eq C prog.meth a l c (some (M2.n + 1, 0)) (l + 1 + 1) (.unk 0) 2 M3
  obtain ⟨M4, v1, v2, v3, v4, v5⟩ := t2.push (bytes := 12) (y := mk200) (cs := [.int .u8 200, .int .u8 0, .int .u8 0, .int .i16 0, .int .i32 0]) encI5 (by omega) rfl (by omega)
  have u4 : M.Upto M4 := up_but u3 v4 (fun o ho => by have := u2.1; simp [fpOf] at ho; omega)
  have h3 := p8_1_eq C prog.meth a l c (some (M3.n + 1, 0)) (l + 1 + 1 + 1) (.unk 0) 3 M4
  have e4 : (xs ++ [mk200] ++ [mk200] ++ [mk200]) = xs ++ [mk200, mk200, mk200] := by simp
  rw [e4] at v5
  have hcut : ∀ {β : Type} (K : Option (Nat × Nat) → Nat → Cap → Option β), slcK false 5 (some (M3.n + 1, 0)) (l + 1 + 1 + 1) (.unk 0) M4 none (some (.int .i64 ((l : Nat) : Int))) none K = K (some (M3.n + 1, 0)) l (.unk 0) := fun K =>
    slcK_own_to v5 (.inl rfl) (by rw [flatMap_length encI5]; simp; omega)
  have w0 : IntKind.wrap .i64 (0 + 1) = 1 := by decide
  have w1 : IntKind.wrap .i64 (1 + 1) = 2 := by decide
  have w2 : IntKind.wrap .i64 (2 + 1) = 3 := by decide
  have c0 : ((0 : Int) < 3) := by decide
  have c1' : ((1 : Int) < 3) := by decide
  have c2 : ((2 : Int) < 3) := by decide
  have c3 : ¬ ((3 : Int) < 3) := by decide
  simp only [c0, decide_true, cond_true, s1, w0] at h0
  simp only [c1', decide_true, cond_true, t1, w1] at h1
  simp only [c2, decide_true, cond_true, v1, w2] at h2
  simp only [c3, decide_false, cond_false, hcut] at h3
  exact ⟨M4, M3.n + 1, c8 (hE.trans (h0.trans (h1.trans (h2.trans h3)))), u4, v5⟩
/-- Marked room. -/
structure Spare (M : Mem) (o : Nat) (xs : List Ins) : Prop where
  g : M.get o = some ⟨(xs ++ [mk200, mk200, mk200]).flatMap encI, .grow 5⟩
theorem Spare.sl {o : Nat} (h : Spare M o xs) : Sl M 5 encI (some (o, 0)) xs.length (.unk 0) xs := by
  refine Sl.of h.g (by simp) rfl (by rw [flatMap_length encI5]; simp; omega) ?_ rfl
  rw [List.drop_zero, flatMap_take encI5]; simp
theorem Spare.full {o : Nat} (h : Spare M o xs) : Sl M 5 encI (some (o, 0)) (xs.length + 3) (.unk 0) (xs ++ [mk200, mk200, mk200]) := by
  have := Sl.whole (c := .unk 0) encI5 h.g (by simp) rfl
  simpa using this
theorem Spare.cut {o : Nat} (h : Spare M o xs) : Cut M (some (o, 0)) xs.length (.unk 0) := .inr ⟨o, 0, _, .grow 5, rfl, rfl, h.g, .inl rfl, by rw [flatMap_length encI5]; simp; omega⟩
theorem kept_C {o : Nat} (h : Spare M o xs) (hx : Sl M 5 encI a l c xs) (hl : l * 12 + 36 ≤ 2 ^ 47) : C 12 [.sl (some (o, 0)) l (.unk 0), .sl a l c] M = some (.bool true, M) := by
  have hE := p12_0_eq C prog.meth (some (o, 0)) l (.unk 0) a l c M
  have hlen := hx.2
  have w3 : IntKind.wrap .i64 ((l : Int) + 3) = ((l + 3 : Nat) : Int) := by rw [wrap_i64 (by omega) (by omega)]; rfl
  have hcut : ∀ {β : Type} (K : Option (Nat × Nat) → Nat → Cap → Option β), slcK false 5 (some (o, 0)) l (.unk 0) M none (some (.int .i64 ((l + 3 : Nat) : Int))) none K = K (some (o, 0)) (l + 3) (.unk 0) := fun K =>
    slcK_own_to h.g (.inl rfl) (by rw [flatMap_length encI5]; simp; omega)
  rw [w3, hcut] at hE
  have hfull := h.full
  rw [hlen] at hfull
  have sq : slPtr (some (o, 0)) (.unk 0) = some (o, 0) := rfl
  have loop : ∀ (d i : Nat), i + d = l + 3 → p12_1 C prog.meth a l c (some (o, 0)) (l + 3) (.unk 0) (i : Int) M = some (.bool true, M) := by
    intro d
    induction d with
    | zero =>
      intro i hi
      have hF := p12_1_eq C prog.meth a l c (some (o, 0)) (l + 3) (.unk 0) (i : Int) M
      have q1 : ¬ ((i : Int) < ((l + 3 : Nat) : Int)) := by omega
      simp only [q1, decide_false, cond_false] at hF
      exact hF
    | succ d ih =>
      intro i hi
      have hF := p12_1_eq C prog.meth a l c (some (o, 0)) (l + 3) (.unk 0) (i : Int) M
      have q1 : ((i : Int) < ((l + 3 : Nat) : Int)) := by omega
      have k1 : (0 : Int) ≤ (i : Int) := by omega
      have k2 : Nat.blt i (l + 3) = true := Mem.blt_iff.2 (by omega)
      have w1 : IntKind.wrap .i64 ((i : Int) + 1) = ((i + 1 : Nat) : Int) := by rw [wrap_i64 (by omega) (by omega)]; rfl
      obtain ⟨p, p1, d1, d2, d3, d4, d5, -, -⟩ := in_ld hfull (i := i) (by omega)
      rw [sq] at p1; cases p1
      by_cases hil : i < l
      · have q2 : ((i : Int) < (l : Int)) := by omega
        have q3 : ¬ ((i : Int) ≥ (l : Int)) := by omega
        have k3 : Nat.blt i l = true := Mem.blt_iff.2 hil
        obtain ⟨p', p1', d1', d2', d3', d4', d5', -, -⟩ := in_ld hx hil
        have e : iA (xs ++ [mk200, mk200, mk200]) i = iA xs i := by
          rw [iA_get (by simp; omega), iA_get (by omega), List.getElem_append_left (by omega)]
        simp only [opA, offA, immA, e] at d1 d2 d3 d4 d5
        simp only [opA, offA, immA] at d1' d2' d3' d4' d5'
        simp only [q1, q2, q3, k1, k2, k3, decide_true, cond_true, Int.toNat_natCast, sq, Option.bind_some, d1, d2, d3, d4, d5, p1', d1', d2', d3', d4', d5', beq_self_eq_true, Bool.and_self, Bool.not_true, cond_false, decide_false, w1] at hF
        exact hF.trans (ih (i + 1) (by omega))
      · have q2 : ¬ ((i : Int) < (l : Int)) := by omega
        have q3 : ((i : Int) ≥ (l : Int)) := by omega
        have e : iA (xs ++ [mk200, mk200, mk200]) i = mk200 := by
          rw [iA_get (by simp; omega), List.getElem_append_right (by omega)]
          have : i - xs.length = 0 ∨ i - xs.length = 1 ∨ i - xs.length = 2 := by omega
          rcases this with h | h | h <;> simp [h]
        simp only [opA, offA, immA, e] at d1 d2 d3 d4 d5
        simp only [mk200, Int.cast_ofNat_Int] at d1 d2 d3 d4 d5
        simp only [q1, q2, q3, k1, k2, decide_true, cond_true, Int.toNat_natCast, sq, Option.bind_some, d1, d2, d3, d4, d5, beq_self_eq_true, Bool.and_self, Bool.not_true, cond_false, decide_false, w1] at hF
        exact hF.trans (ih (i + 1) (by omega))
  exact c12 (hE.trans (loop (l + 3) 0 (by omega)))
theorem nextA_len (n : Int) : (nextA xs n).1.length ≤ 2 := by
  unfold nextA
  split
  · exact Nat.zero_le _
  · split
    · exact Nat.zero_le _
    · unfold nxA
      repeat' split
      all_goals simp
theorem FlowNexts_C (hx : Sl M 5 encI a l c xs) (hr : ∀ x ∈ xs, InsR x) (hl : l * 12 + 36 ≤ 2 ^ 47) (n : Int) : ∃ M', C 3 [.sl a l c, .int .i64 n] M = some (.bool true, M') := by
  have hE := p3_0_eq C prog.meth a l c n M
  obtain ⟨M1, o, s1, s2, s3⟩ := spare_C hx hl
  obtain ⟨Mw, cw⟩ := works14_C
  have hlen := hx.2
  rw [s1, Option.bind_some] at hE
  simp only [AVal.sl?, Option.bind_some] at hE
  have both : ∀ (M2 : Mem) (n : Int), M1.Upto M2 → ∃ (M3 : Mem) (v : SlV) (M4 : Mem) (v' : SlV), C 9 [.sl (some (o, 0)) l (.unk 0), .int .i64 n] M2 = some (.tup [.sl v.1 v.2.1 v.2.2, .int .i64 (nextA xs n).2], M3) ∧ C 10 [.sl a l c, .int .i64 n] M3 = some (.tup [.sl v'.1 v'.2.1 v'.2.2, .int .i64 (nextA xs n).2], M4) ∧
      C 11 [.sl v.1 v.2.1 v.2.2, .sl v'.1 v'.2.1 v'.2.2] M4 = some (.bool true, M4) ∧ M1.Upto M4 := fun M2 n hu => by
    have hsp : Spare M2 o xs := ⟨hu.get s3⟩
    have hsl := hsp.sl
    have hct := hsp.cut
    rw [hlen] at hsl hct
    obtain ⟨M3, v, a1, a2, a3, -⟩ := Next_C hsl hct hr n
    obtain ⟨M4, v', b1, b2, b3⟩ := RNext_C (hx.upto encI5 (by omega) ((s2.trans hu).trans a2)) hr n
    have := EqInts_C (ints_upto a3 b2) b3 (by have h1 := ints_length a3; have h2 := nextA_len (xs := xs) n; omega)
    rw [decide_eq_true rfl] at this
    exact ⟨M3, v, M4, v', a1, b1, this, (hu.trans a2).trans b2⟩
  have final : ∀ M2, M1.Upto M2 → ∃ M', p3_3 C prog.meth a l c n (some (o, 0)) l (.unk 0) M2 = some (.bool true, M') := fun M2 hu => by
    have hF := p3_3_eq C prog.meth a l c n (some (o, 0)) l (.unk 0) M2
    obtain ⟨M3, v, M4, v', a1, a2, a3, a4⟩ := both M2 n hu
    have hk := kept_C (M := M4) ⟨a4.get s3⟩ (hx.upto encI5 (by omega) (s2.trans a4)) hl
    simp only [a1, Option.bind_some, AVal.tup?, List.head?_cons, AVal.sl?, List.tail_cons, int?_int, List.isEmpty_nil, cond_true, a2, beq_self_eq_true, a3, AVal.bool?, hk, cw] at hF
    exact ⟨M4, hF⟩
  have loop : ∀ (d k : Nat) (M2 : Mem), k + d = l + 2 → M1.Upto M2 → ∃ M', p3_1 C prog.meth a l c n (some (o, 0)) l (.unk 0) ((k : Int) - 1) M2 = some (.bool true, M') := by
    intro d
    induction d with
    | zero =>
      intro k M2 hk hu
      have hF := p3_1_eq C prog.meth a l c n (some (o, 0)) l (.unk 0) ((k : Int) - 1) M2
      have w1 : IntKind.wrap .i64 ((l : Int) + 1) = ((l + 1 : Nat) : Int) := by rw [wrap_i64 (by omega) (by omega)]; rfl
      have q1 : ¬ ((k : Int) - 1 < ((l + 1 : Nat) : Int)) := by omega
      rw [w1] at hF
      simp only [q1, decide_false, cond_false] at hF
      obtain ⟨M', u1⟩ := final M2 hu
      exact ⟨M', hF.trans u1⟩
    | succ d ih =>
      intro k M2 hk hu
      have hF := p3_1_eq C prog.meth a l c n (some (o, 0)) l (.unk 0) ((k : Int) - 1) M2
      have w1 : IntKind.wrap .i64 ((l : Int) + 1) = ((l + 1 : Nat) : Int) := by rw [wrap_i64 (by omega) (by omega)]; rfl
      have q1 : ((k : Int) - 1 < ((l + 1 : Nat) : Int)) := by omega
      rw [w1] at hF
      simp only [q1, decide_true, cond_true] at hF
      by_cases hbig : (k : Int) - 1 < 258
      rotate_left
      · simp only [hbig, decide_false, cond_false] at hF
        obtain ⟨M', u1⟩ := final M2 hu
        exact ⟨M', hF.trans u1⟩
      simp only [hbig, decide_true, cond_true] at hF
      have hG := p3_2_eq C prog.meth a l c n (some (o, 0)) l (.unk 0) ((k : Int) - 1) M2
      obtain ⟨M3, v, M4, v', a1, a2, a3, a4⟩ := both M2 ((k : Int) - 1) hu
      simp only [a1, Option.bind_some, AVal.tup?, List.head?_cons, AVal.sl?, List.tail_cons, int?_int, List.isEmpty_nil, cond_true, a2, bne_self_eq_false, cond_false, a3, AVal.bool?, Bool.not_true] at hG
      have hH := p3_4_eq C prog.meth a l c n (some (o, 0)) l (.unk 0) ((k : Int) - 1) (nextA xs ((k : Int) - 1)).2 M4
      have w2 : IntKind.wrap .i64 ((k : Int) - 1 + 1) = ((k + 1 : Nat) : Int) - 1 := by rw [wrap_i64 (by omega) (by omega)]; omega
      rw [w2] at hH
      obtain ⟨M', u1⟩ := ih (k + 1) M4 (by omega) a4
      obtain ⟨M'', u2⟩ := final M4 a4
      have hFG := hF.trans (hG.trans hH)
      cases z1 : ((nextA xs ((k : Int) - 1)).2 != 0) with
      | false =>
        rw [z1, cond_false] at hFG
        exact ⟨M', hFG.trans u1⟩
      | true =>
        rw [z1, cond_true] at hFG
        cases z2 : ((nextA xs ((k : Int) - 1)).2 != 2) with
        | false =>
          rw [z2, cond_false] at hFG
          exact ⟨M', hFG.trans u1⟩
        | true =>
          rw [z2, cond_true] at hFG
          exact ⟨M'', hFG.trans u2⟩
  obtain ⟨M', u1⟩ := loop (l + 2) 0 M1 (by omega) (Mem.Upto.refl _)
  exact ⟨M', c3 (hE.trans u1)⟩
end
/-- FlowNexts. -/
theorem FlowNexts_law : ∀ avs M, M.Whole → okL M.n avs → ShowsArgs M [(false, [.sl 12 [.int .u8, .int .u8, .int .u8, .int .i16, .int .i32]]), (false, [.int .i64])] avs → ∃ M', C 3 avs M = some (.bool true, M') := by
  intro avs M hM hok h
  simp only [ShowsArgs, ShowsArg] at h
  obtain ⟨v, _, rfl, ⟨t, ht, hv⟩, w, _, rfl, ⟨t2, ht2, hw⟩, rfl⟩ := h
  obtain rfl : t = .sl 12 [.int .u8, .int .u8, .int .u8, .int .i16, .int .i32] := by simpa using ht.symm
  obtain rfl : t2 = .int .i64 := by simpa using ht2.symm
  obtain ⟨a, l, c, xs, rfl, hx, hc, hl, hr⟩ := code_of hv
  simp only [Shows] at hw
  obtain ⟨k, rfl, _⟩ := hw
  exact FlowNexts_C hx hr (by simp [reachBytes] at hl; omega) k
end Go.Proofs.Ytjfhapfdahdniaa.M
