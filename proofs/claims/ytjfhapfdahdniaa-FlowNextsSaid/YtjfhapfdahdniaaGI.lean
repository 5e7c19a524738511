/- FlowForward. -/
import Derived.Test.YtjfhapfdahdniaaGH
set_option linter.unusedVariables false
set_option linter.unusedSimpArgs false
set_option linter.unnecessarySimpa false
set_option maxRecDepth 100000
namespace Go.Proofs.Ytjfhapfdahdniaa.M
open Go.Abs Go.RowKit

section
variable {xs : List Ins} {M M0 M1 : Mem} {a : Option (Nat × Nat)} {l : Nat} {c : Cap} {s : Nat}
/-- What holds of each place that may come next. -/
theorem nx_all (h : Fine xs) {i : Nat} (hi : i < xs.length) (h36 : Nat.beq (opA xs i) 36 = false) : 1 ≤ (nxA xs i).length ∧ (nxA xs i).length ≤ 2 ∧ (∀ x ∈ nxA xs i, ∃ t : Nat, x = (t : Int) ∧ t < xs.length ∧ (t ≤ i → EA xs i = true) ∧
    (∀ b, RA xs b = true → b ∈ stA xs t → b = i ∨ b ∈ stA xs i) ∧ (t ≤ i → ∀ b, Clo (RA xs) (EA xs) b i → t = b + 1)) ∧ (∀ x y, nxA xs i = [x, y] → x < y) := by
  rcases nx_cases h hi h36 with ⟨hR, hE, e, hl⟩ | ⟨hR, hE, hl, b, r, hs, e⟩ | ⟨hR, hE, ⟨t, e, g⟩ | ⟨t, t', e, hlt, g, g'⟩⟩
  · rw [e]
    refine ⟨by simp, by simp, fun x hx => ?_, fun x y hxy => by cases hxy⟩
    obtain rfl : x = ((i + 1 : Nat) : Int) := by simpa using hx
    refine ⟨i + 1, rfl, hl, fun h => by omega, fun b hb hm => ?_, fun h => by omega⟩
    rcases stk_step hm with h1 | h1
    · exact .inl h1.1
    · exact .inr h1
  · have hcl := clo_of_end hR hE hs
    have nx1 : ∀ b', b' ∈ stA xs (i + 1) → b' = i ∨ b' ∈ stA xs i := fun b' hm => by
      rcases stk_step hm with h1 | h1
      · exact .inl h1.1
      · exact .inr h1
    by_cases him : immA xs b > 1
    · rw [e, if_pos him]
      refine ⟨by simp, by simp, fun x hx => ?_, fun x y hxy => ?_⟩
      · rcases List.mem_cons.1 hx with rfl | hx
        · refine ⟨b + 1, rfl, by have := hcl.1; omega, fun _ => hE, fun b' _ hm => ?_, fun _ b' hb' => by rw [hb'.inj' hcl]⟩
          have : stA xs (b + 1) = b :: stA xs b := by show stk _ _ (b + 1) = _; rw [stk, if_pos (stk_cons i hs).2.1]
          rw [this, ← show r = stA xs b from (stk_cons i hs).2.2, ← hs] at hm
          exact .inr hm
        · obtain rfl : x = ((i + 1 : Nat) : Int) := by simpa using hx
          exact ⟨i + 1, rfl, hl, fun h => by omega, fun b' _ hm => nx1 b' hm, fun h => by omega⟩
      · simp only [List.cons.injEq] at hxy
        have := hcl.1
        omega
    · rw [e, if_neg him]
      refine ⟨by simp, by simp, fun x hx => ?_, fun x y hxy => by cases hxy⟩
      obtain rfl : x = ((i + 1 : Nat) : Int) := by simpa using hx
      exact ⟨i + 1, rfl, hl, fun h => by omega, fun b' _ hm => nx1 b' hm, fun h => by omega⟩
  · rw [e]
    refine ⟨by simp, by simp, fun x hx => ?_, fun x y hxy => by cases hxy⟩
    obtain rfl : x = (t : Int) := by simpa using hx
    exact ⟨t, rfl, g.lt, fun h => by have := g.fwd; omega, fun b _ hm => .inr (g.sub b hm), fun h => by have := g.fwd; omega⟩
  · rw [e]
    refine ⟨by simp, by simp, fun x hx => ?_, fun x y hxy => ?_⟩
    · rcases List.mem_cons.1 hx with rfl | hx
      · exact ⟨t, rfl, g.lt, fun h => by have := g.fwd; omega, fun b _ hm => .inr (g.sub b hm), fun h => by have := g.fwd; omega⟩
      · obtain rfl : x = (t' : Int) := by simpa using hx
        exact ⟨t', rfl, g'.lt, fun h => by have := g'.fwd; omega, fun b _ hm => .inr (g'.sub b hm), fun h => by have := g'.fwd; omega⟩
    · simp only [List.cons.injEq] at hxy
      omega
theorem two_lt : ∀ {L : List Int} (h : L.length = 2) (hp : ∀ x y, L = [x, y] → x < y), L[0]'(by omega) < L[1]'(by omega)
  | [x, y], _, hp => hp x y rfl
theorem FlowForward_C (hx : Sl M 5 encI a l c xs) (hc : Cut M a l c) (hr : ∀ x ∈ xs, InsR x) : ∃ M', C 6 [.sl a l c] M = some (.bool true, M') := by
  have hE := p6_0_eq C prog.meth a l c M
  obtain ⟨Mw, cw⟩ := works14_C
  obtain ⟨M1, v, t1, t2, t3, t4⟩ := Loops_C hx hc hr
  have hl := hx.2
  simp only [cw, t1, Option.bind_some, AVal.bool?, Bool.not_true, cond_false, AVal.tup?, List.head?_cons, AVal.sl?, List.tail_cons, int?_int, List.isEmpty_nil, cond_true] at hE
  by_cases h : (chkA xs).2 = 0
  rotate_left
  · simp only [bne0 h, cond_true] at hE
    exact ⟨M1, c6 hE⟩
  have hf := chkA_zero.1 h
  have hs := t4 h
  have h256 := hf.le
  simp only [bne0' h, cond_false] at hE
  have hlen : v.2.1 = rk (RA xs) xs.length := by rw [← hs.2, lps_length]
  have hv256 : v.2.1 ≤ 256 := by have := rk_id (R := RA xs) xs.length; omega
  have loop : ∀ (d i : Nat) (M2 : Mem), i + d = l → M1.Upto M2 → ∃ M', p6_1 C prog.meth a l c v.1 v.2.1 v.2.2 (i : Int) M2 = some (.bool true, M') := by
    intro d
    induction d with
    | zero =>
      intro i M2 hk hu
      have hF := p6_1_eq C prog.meth a l c v.1 v.2.1 v.2.2 (i : Int) M2
      have q1 : ¬ ((i : Int) < (l : Int)) := by omega
      simp only [q1, decide_false, cond_false] at hF
      exact ⟨M2, hF⟩
    | succ d ih =>
      intro i M2 hk hu
      have hF := p6_1_eq C prog.meth a l c v.1 v.2.1 v.2.2 (i : Int) M2
      have hil : i < xs.length := by omega
      obtain ⟨M3, w, n1, n2, n3, -⟩ := Next_C (hx.upto encI5 (by omega) (t2.trans hu)) (hc.upto (t2.trans hu)) hr (i : Int)
      have hnx : nextA xs (i : Int) = (nxA xs i, 0) := by unfold nextA; rw [if_neg (by simpa using h), if_neg (by omega), Int.toNat_natCast]
      rw [hnx] at n1 n3
      have n3 : M3.ints .i64 w.1 w.2.1 w.2.2 = some (nxA xs i) := n3
      have hx3 := hx.upto encI5 (by omega) ((t2.trans hu).trans n2)
      obtain ⟨p, p1, p2, -⟩ := in_ld hx3 (i := i) (by omega)
      have q1 : ((i : Int) < (l : Int)) := by omega
      have k1 : (0 : Int) ≤ (i : Int) := by omega
      have k2 : Nat.blt i l = true := Mem.blt_iff.2 (by omega)
      have e36 : ((opA xs i : Int) == 36) = Nat.beq (opA xs i) 36 := opI 36
      have w1 : IntKind.wrap .i64 ((i : Int) + 1) = ((i + 1 : Nat) : Int) := by rw [wrap_i64 (by omega) (by omega)]; rfl
      obtain ⟨wl, wg⟩ := ints_iff.1 n3
      have len0 : (((w.2.1 : Nat) : Int) == 0) = Nat.beq (opA xs i) 36 := by
        cases h36 : Nat.beq (opA xs i) 36 with
        | true =>
          have : nxA xs i = [] := by unfold nxA; rw [h36]; rfl
          rw [this] at wl
          rw [← wl]; rfl
        | false =>
          have := (nx_all hf hil h36).1
          simp; omega
      have hw2 : w.2.1 ≤ 2 := by
        cases h36 : Nat.beq (opA xs i) 36 with
        | true =>
          have : nxA xs i = [] := by unfold nxA; rw [h36]; rfl
          rw [this] at wl
          have : w.2.1 = 0 := wl.symm
          omega
        | false => have := (nx_all hf hil h36).2.1; omega
      simp only [q1, decide_true, cond_true, n1, Option.bind_some, AVal.tup?, List.head?_cons, AVal.sl?, List.tail_cons, int?_int, List.isEmpty_nil, bne_self_eq_false, cond_false, k1, Int.toNat_natCast, k2, p1, Nat.add_zero, p2, e36, len0, beq_self_eq_true, Bool.not_true] at hF
      have hu3 := hu.trans n2
      -- the places
      have places : ∀ (d' k : Nat) (M4 : Mem), k + d' = w.2.1 → M3.Upto M4 → ∃ M', p6_3 C prog.meth a l c v.1 v.2.1 v.2.2 (i : Int) w.1 w.2.1 w.2.2 (k : Int) M4 = some (.bool true, M') := by
        intro d'
        induction d' with
        | zero =>
          intro k M4 hk' hu'
          have hG := p6_3_eq C prog.meth a l c v.1 v.2.1 v.2.2 (i : Int) w.1 w.2.1 w.2.2 (k : Int) M4
          have q2 : ¬ ((k : Int) < (w.2.1 : Int)) := by omega
          simp only [q2, decide_false, cond_false, w1] at hG
          obtain ⟨M', u1⟩ := ih (i + 1) M4 (by omega) (hu3.trans hu')
          exact ⟨M', hG.trans u1⟩
        | succ d' ih' =>
          intro k M4 hk' hu'
          have hG := p6_3_eq C prog.meth a l c v.1 v.2.1 v.2.2 (i : Int) w.1 w.2.1 w.2.2 (k : Int) M4
          have h36 : Nat.beq (opA xs i) 36 = false := by
            cases h36 : Nat.beq (opA xs i) 36 with
            | false => rfl
            | true =>
              have : nxA xs i = [] := by unfold nxA; rw [h36]; rfl
              rw [this] at wl
              have : w.2.1 = 0 := wl.symm
              omega
          obtain ⟨a1, a2, a3, a4⟩ := nx_all hf hil h36
          have n4 := ints_upto n3 hu'
          obtain ⟨-, wg4⟩ := ints_iff.1 n4
          have hkl : k < (nxA xs i).length := by omega
          obtain ⟨pw, y1, y2⟩ := wg4 k (by omega)
          rw [List.getElem?_eq_getElem hkl] at y2
          obtain ⟨t, b1, b2, b3, b4, b5⟩ := a3 _ (List.getElem_mem hkl)
          rw [b1] at y2
          have q2 : ((k : Int) < (w.2.1 : Int)) := by omega
          have z1 : (0 : Int) ≤ (k : Int) := by omega
          have z2 : Nat.blt k w.2.1 = true := Mem.blt_iff.2 (by omega)
          have z3 : ¬ ((t : Int) < 0) := by omega
          have z4 : ¬ ((t : Int) ≥ (l : Int)) := by omega
          obtain ⟨pc, c1, c2, -⟩ := in_ld (hx3.upto encI5 (by omega) hu') (i := i) (by omega)
          have e34 : ((opA xs i : Int) != 34) = !EA xs i := by
            unfold EA
            by_cases h : opA xs i = 34
            · rw [h]; rfl
            · rw [beq_false h]; simp; omega
          -- the loops
          have loops : ∀ (d'' j : Nat) (M5 : Mem), j + d'' = v.2.1 → M4.Upto M5 → ∃ M', p6_5 C prog.meth a l c v.1 v.2.1 v.2.2 (i : Int) w.1 w.2.1 w.2.2 (k : Int) (j : Int) M5 = some (.bool true, M') := by
            intro d''
            induction d'' with
            | zero =>
              intro j M5 hj hu''
              have hH := p6_5_eq C prog.meth a l c v.1 v.2.1 v.2.2 (i : Int) w.1 w.2.1 w.2.2 (k : Int) (j : Int) M5
              have q3 : ¬ ((j : Int) < (v.2.1 : Int)) := by omega
              have wk : IntKind.wrap .i64 ((k : Int) + 1) = ((k + 1 : Nat) : Int) := by rw [wrap_i64 (by omega) (by omega)]; rfl
              simp only [q3, decide_false, cond_false, wk] at hH
              obtain ⟨M', u1⟩ := ih' (k + 1) M5 (by omega) (hu'.trans hu'')
              exact ⟨M', hH.trans u1⟩
            | succ d'' ih'' =>
              intro j M5 hj hu''
              have hH := p6_5_eq C prog.meth a l c v.1 v.2.1 v.2.2 (i : Int) w.1 w.2.1 w.2.2 (k : Int) (j : Int) M5
              have hs5 := hs.upto encLo4 (by omega) ((hu3.trans hu').trans hu'')
              obtain ⟨b, e, p', f1, f2, f3, f4, f5, f6, r0, r1, r2, r3⟩ := lo_at hf hs5 (k := j) (by omega)
              obtain ⟨M6, m1, m2, m3⟩ := lbox M5 (b : Int) (e : Int) (immA xs b) (((stA xs b).length + 1 : Nat) : Int)
              obtain ⟨g0, g1, g2, g3⟩ := lbox_rd m3
              have q3 : ((j : Int) < (v.2.1 : Int)) := by omega
              have z5 : (0 : Int) ≤ (j : Int) := by omega
              have z6 : Nat.blt j v.2.1 = true := Mem.blt_iff.2 (by omega)
              have y2' : M6.ldI .i64 pw.1 (pw.2 + k) = some (t : Int) := by
                have n6 := ints_upto n4 (hu''.trans m2)
                obtain ⟨-, wg6⟩ := ints_iff.1 n6
                obtain ⟨pw', y1', y2'⟩ := wg6 k (by omega)
                rw [y1] at y1'; cases y1'
                rw [y2', List.getElem?_eq_getElem hkl, b1]
              have wj : IntKind.wrap .i64 ((j : Int) + 1) = ((j + 1 : Nat) : Int) := by rw [wrap_i64 (by omega) (by omega)]; rfl
              have wb : IntKind.wrap .i64 ((b : Int) + 1) = ((b + 1 : Nat) : Int) := by rw [wrap_i64 (by omega) (by omega)]; rfl
              simp only [q3, z5, z6, decide_true, cond_true, Int.toNat_natCast, f6, Option.bind_some, r0, r1, r2, r3, m1, z1, z2, y1, Nat.mul_one, y2', g0, g1, wj, wb] at hH
              obtain ⟨M', u1⟩ := ih'' (j + 1) M6 (by omega) (hu''.trans m2)
              refine ⟨M', hH.trans ?_⟩
              rw [← u1]
              have F1 : t > b → t ≤ e → b ≤ i ∧ i ≤ e := fun h1 h2 => by
                rcases b4 b f1 (f5.mem.2 ⟨h1, h2⟩) with h3 | h3
                · subst h3; have := f5.1; omega
                · have := f5.mem.1 h3; omega
              have F2 : t ≤ i → i = e → t = b + 1 := fun h1 h2 => b5 h1 b (by rw [h2]; exact f5)
              have H1 : decide ((t : Int) > (b : Int)) = true → decide ((t : Int) ≤ (e : Int)) = true → decide ((i : Int) ≥ (b : Int)) = true ∧ decide ((i : Int) ≤ (e : Int)) = true := fun h1 h2 => by
                have h1 := of_decide_eq_true h1
                have h2 := of_decide_eq_true h2
                have := F1 (by omega) (by omega)
                exact ⟨decide_eq_true (by omega), decide_eq_true (by omega)⟩
              have H2 : decide ((t : Int) ≤ (i : Int)) = true → ((i : Int) == (e : Int)) = true → ((t : Int) != ((b + 1 : Nat) : Int)) = false := fun h1 h2 => by
                have h1 := of_decide_eq_true h1
                have h2 : (i : Int) = (e : Int) := by simpa using h2
                have := F2 (by omega) (by omega)
                rw [this]; simp
              generalize decide ((t : Int) > (b : Int)) = B1 at H1 ⊢
              generalize decide ((t : Int) ≤ (e : Int)) = B2 at H1 ⊢
              generalize decide ((i : Int) ≥ (b : Int)) = B3 at H1 ⊢
              generalize decide ((i : Int) ≤ (e : Int)) = B4 at H1 ⊢
              generalize decide ((t : Int) ≤ (i : Int)) = B5 at H2 ⊢
              generalize ((i : Int) == (e : Int)) = B6 at H2 ⊢
              generalize ((t : Int) != ((b + 1 : Nat) : Int)) = B7 at H2 ⊢
              cases B1 <;> cases B2 <;> cases B3 <;> cases B4 <;> cases B5 <;> cases B6 <;> cases B7 <;> first | rfl | (exact absurd (H1 rfl rfl).1 (by decide)) | (exact absurd (H1 rfl rfl).2 (by decide)) | (exact absurd (H2 rfl rfl) (by decide))
          obtain ⟨M', u1⟩ := loops v.2.1 0 M4 (by omega) (Mem.Upto.refl _)
          have h4 := p6_4_eq C prog.meth a l c v.1 v.2.1 v.2.2 (i : Int) w.1 w.2.1 w.2.2 (k : Int) M4
          have u2 := h4.trans u1
          have tail : (cond (decide ((t : Int) ≤ (i : Int))) (cond (!EA xs i) (some (.bool false, M4)) (p6_4 C prog.meth a l c v.1 v.2.1 v.2.2 (i : Int) w.1 w.2.1 w.2.2 (k : Int) M4)) (p6_4 C prog.meth a l c v.1 v.2.1 v.2.2 (i : Int) w.1 w.2.1 w.2.2 (k : Int) M4)) = p6_4 C prog.meth a l c v.1 v.2.1 v.2.2 (i : Int) w.1 w.2.1 w.2.2 (k : Int) M4 := by
            by_cases hti : (t : Int) ≤ (i : Int)
            · rw [decide_eq_true hti, cond_true, b3 (by omega)]; rfl
            · rw [decide_eq_false hti, cond_false]
          simp only [q2, z1, z2, decide_true, cond_true, Int.toNat_natCast, y1, Option.bind_some, Nat.mul_one, y2, z3, z4, decide_false, cond_false, k1, k2, c1, Nat.add_zero, c2, e34] at hG
          by_cases hk0 : (k : Int) > 0
          · obtain rfl : k = 1 := by omega
            have z7 : IntKind.wrap .i64 (((1 : Nat) : Int) - 1) = ((0 : Nat) : Int) := by decide
            have z8 : (0 : Int) ≤ ((0 : Nat) : Int) := by omega
            have z9 : Nat.blt 0 w.2.1 = true := Mem.blt_iff.2 (by omega)
            obtain ⟨pw', y1', y0⟩ := wg4 0 (by omega)
            rw [y1] at y1'; cases y1'
            rw [List.getElem?_eq_getElem (by omega)] at y0
            have hlt : (nxA xs i)[0]'(by omega) < (t : Int) := by
              rw [← b1]
              exact two_lt (by omega) a4
            have z10 : ¬ ((t : Int) ≤ (nxA xs i)[0]'(by omega)) := by omega
            have z11 : (((1 : Nat) : Int) > 0) := by omega
            rw [Nat.add_zero] at y0
            simp only [z11, decide_true, cond_true, z7, z8, Int.toNat_natCast, z9, y0, Option.bind_some, Nat.zero_mul, Nat.add_zero, z10, decide_false, cond_false, tail] at hG
            exact ⟨M', hG.trans u2⟩
          · simp only [hk0, decide_false, cond_false, tail] at hG
            exact ⟨M', hG.trans u2⟩
      obtain ⟨M', u1⟩ := places w.2.1 0 M3 (by omega) (Mem.Upto.refl _)
      have h2 := p6_2_eq C prog.meth a l c v.1 v.2.1 v.2.2 (i : Int) w.1 w.2.1 w.2.2 M3
      exact ⟨M', hF.trans (h2.trans u1)⟩
  obtain ⟨M', u1⟩ := loop l 0 M1 (by omega) (Mem.Upto.refl _)
  exact ⟨M', c6 (hE.trans u1)⟩
end
/-- FlowForward. -/
theorem FlowForward_law : ∀ avs M, M.Whole → okL M.n avs → ShowsArgs M [(false, [.sl 12 [.int .u8, .int .u8, .int .u8, .int .i16, .int .i32]])] avs → ∃ M', C 6 avs M = some (.bool true, M') := by
  intro avs M hM hok h
  simp only [ShowsArgs, ShowsArg] at h
  obtain ⟨v, _, rfl, ⟨t, ht, hv⟩, rfl⟩ := h
  obtain rfl : t = .sl 12 [.int .u8, .int .u8, .int .u8, .int .i16, .int .i32] := by simpa using ht.symm
  obtain ⟨a, l, c, xs, rfl, hx, hc, hl, hr⟩ := code_of hv
  exact FlowForward_C hx hc hr
end Go.Proofs.Ytjfhapfdahdniaa.M
