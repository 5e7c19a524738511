/- The package flow: what comes next; FlowLoops, FlowForward. -/
import Derived.Test.YtjfhapfdahdniaaGW
set_option linter.unusedVariables false
set_option linter.unusedSimpArgs false
set_option linter.unnecessarySimpa false
set_option maxRecDepth 100000
namespace Go.Proofs.Ytjfhapfdahdniaa.M
open Go.Abs Go.RowKit

/-- A program, as arguments have it. -/
theorem code_of {M : Mem} {v : AVal} (h : Shows M (.sl 12 [.int .u8, .int .u8, .int .u8, .int .i16, .int .i32]) v) : ∃ a l c xs, v = .sl a l c ∧ Sl M 5 encI a l c xs ∧ Cut M a l c ∧ l * 12 ≤ reachBytes ∧ ∀ x ∈ xs, InsR x := by
  have h0 := h
  rw [Shows] at h
  rcases h with rfl | ⟨o, rfl⟩ | ⟨o, len, cells, rfl, h2, h3, h4, h5⟩
  · exact ⟨_, _, _, [], rfl, Sl.nil _ _ _ _ _, .inl (.inl ⟨0, rfl, Nat.le_refl _⟩), by simp, by simp⟩
  · exact ⟨_, _, _, [], rfl, Sl.nil _ _ _ _ _, .inl (.inr ⟨rfl, rfl⟩), by simp, by simp⟩
  · have one : ∀ i, i < len → ∃ p : Ins, (cells.drop (i * 5)).take 5 = encI p ∧ InsR p := by
      intro i hi
      have := h5 i hi
      simp only [ShowsR] at this
      obtain ⟨v0, w0, e0, hb0, v1, w1, rfl, hb1, v2, w2, rfl, hb2, v3, w3, rfl, hb3, v4, w4, rfl, hb4, rfl⟩ := this
      simp only [Shows] at hb0 hb1 hb2 hb3 hb4
      obtain ⟨x0, rfl, hx0⟩ := hb0
      obtain ⟨x1, rfl, hx1⟩ := hb1
      obtain ⟨x2, rfl, hx2⟩ := hb2
      obtain ⟨x3, rfl, hx3⟩ := hb3
      obtain ⟨x4, rfl, hx4⟩ := hb4
      obtain ⟨n, rfl⟩ : ∃ n : Nat, x0 = (n : Int) := ⟨x0.toNat, by have := u8_bounds hx0; omega⟩
      exact ⟨(n, x1, x2, x3, x4), e0, ⟨by have := u8_bounds hx0; omega, u8_bounds hx1, u8_bounds hx2, i16_bounds hx3, i32_bounds hx4⟩⟩
    have all : ∀ n, n ≤ len → ∃ xs : List Ins, xs.length = n ∧ cells.take (n * 5) = xs.flatMap encI ∧ ∀ p ∈ xs, InsR p := by
      intro n
      induction n with
      | zero => exact fun _ => ⟨[], rfl, by simp, by simp⟩
      | succ n ih =>
        intro hn
        obtain ⟨xs, e1, e2, e3⟩ := ih (by omega)
        obtain ⟨p, f1, f2⟩ := one n (by omega)
        refine ⟨xs ++ [p], by simp [e1], ?_, fun q hq => ?_⟩
        · rw [Nat.add_mul, Nat.one_mul, List.take_add, e2, f1]; simp [List.flatMap_append]
        · rcases List.mem_append.1 hq with hq | hq
          · exact e3 q hq
          · obtain rfl : q = p := by simpa using hq
            exact f2
    obtain ⟨xs, e1, e2, e3⟩ := all len (Nat.le_refl _)
    have hc : cells.length = len * 5 := by simpa using h3
    rw [← hc, List.take_length] at e2
    refine ⟨_, _, _, xs, rfl, ?_, .inr ⟨o, 0, cells, .ro 5, rfl, rfl, h2, .inr rfl, by omega⟩, h4, e3⟩
    rw [e2] at h2
    have := Sl.whole (c := .unk 0) encI5 h2 (by simp) rfl
    rwa [e1] at this
section
variable {xs : List Ins} {M M0 M1 : Mem} {a : Option (Nat × Nat)} {l : Nat} {c : Cap} {s : Nat}
theorem Fine.last (h : Fine xs) {i : Nat} (hi : i < xs.length) (h36 : Nat.beq (opA xs i) 36 = false) : i + 1 < xs.length := by
  have := h.jb i hi
  unfold jbA at this
  rw [h36] at this
  cases e : Nat.beq (i + 1) xs.length with
  | true => rw [e] at this; simp at this
  | false =>
    have : i + 1 ≠ xs.length := fun h => by rw [h, Nat.beq_refl] at e; cases e
    omega
theorem Fine.lands (h : Fine xs) {i : Nat} (hi : i < xs.length) (hj : jA xs i = true) : ∃ t : Nat, (i : Int) + 1 + offA xs i = (t : Int) ∧ i < t ∧ t < xs.length ∧ ∀ b, b ∈ stA xs t → b ∈ stA xs i := by
  have h1 := h.jb i hi
  unfold jbA at h1
  have h2 : landsA xs i = true := by
    cases e : landsA xs i with
    | true => rfl
    | false => rw [hj, e] at h1; simp at h1
  have ho := okA_j (h.ok i hi) hj
  unfold landsA at h2
  simp only [Bool.and_eq_true, decide_eq_true_eq, List.all_eq_true] at h2
  refine ⟨((i : Int) + 1 + offA xs i).toNat, by omega, by omega, h2.1, fun b hb => ?_⟩
  exact List.contains_iff_mem.1 (h2.2 b hb)
theorem Fine.clo (h : Fine xs) : Ends (RA xs) (EA xs) xs.length (fun b => (ea (RA xs) (EA xs) xs.length b).toNat) := fun b hb hR => by
  obtain ⟨e, h1, h2, h3⟩ := clo_ex h.closed hb hR
  simp only [h3, Int.toNat_natCast]
  exact ⟨h1, h2⟩
/-- A place that may come next. -/
structure Goes (xs : List Ins) (i t : Nat) : Prop where
  lt : t < xs.length
  fwd : i < t
  sub : ∀ b, b ∈ stA xs t → b ∈ stA xs i
/-- What comes next. -/
theorem nx_cases (h : Fine xs) {i : Nat} (hi : i < xs.length) (h36 : Nat.beq (opA xs i) 36 = false) :
    (RA xs i = true ∧ EA xs i = false ∧ nxA xs i = [((i + 1 : Nat) : Int)] ∧ i + 1 < xs.length) ∨
    (RA xs i = false ∧ EA xs i = true ∧ i + 1 < xs.length ∧ ∃ b r, stA xs i = b :: r ∧ nxA xs i = (if immA xs b > 1 then [((b + 1 : Nat) : Int), ((i + 1 : Nat) : Int)] else [((i + 1 : Nat) : Int)])) ∨
    (RA xs i = false ∧ EA xs i = false ∧ ((∃ t : Nat, nxA xs i = [(t : Int)] ∧ Goes xs i t) ∨ ∃ t t' : Nat, nxA xs i = [(t : Int), (t' : Int)] ∧ t < t' ∧ Goes xs i t ∧ Goes xs i t')) := by
  have hlast := h.last hi h36
  have i1 : (i : Int) + 1 = ((i + 1 : Nat) : Int) := by omega
  cases hR : RA xs i with
  | true =>
    left
    have hop : opA xs i = 33 := Nat.eq_of_beq_eq_true hR
    refine ⟨rfl, by unfold EA; rw [hop]; rfl, ?_, hlast⟩
    unfold nxA jA EA
    rw [hop, i1]; rfl
  | false =>
    cases hE : EA xs i with
    | true =>
      right; left
      have hop : opA xs i = 34 := Nat.eq_of_beq_eq_true hE
      refine ⟨rfl, rfl, hlast, ?_⟩
      cases hs : stA xs i with
      | nil => exact absurd hs (h.ends i hi hR hE)
      | cons b r =>
        refine ⟨b, r, rfl, ?_⟩
        unfold nxA jA EA
        rw [hop]
        show (match stA xs i with | b :: _ => _ | [] => _) = _
        rw [hs, i1]; rfl
    | false =>
      right; right
      refine ⟨rfl, rfl, ?_⟩
      have next : Goes xs i (i + 1) := by
        refine ⟨hlast, by omega, fun b hb => ?_⟩
        rcases stk_step hb with h1 | h1
        · rw [h1.2] at hR; cases hR
        · exact h1
      unfold nxA
      rw [h36, hE]
      cases h22 : Nat.beq (opA xs i) 22 with
      | true =>
        left
        have hj : jA xs i = true := by unfold jA; rw [h22]; rfl
        obtain ⟨t, t1, t2, t3, t4⟩ := h.lands hi hj
        exact ⟨t, by show [(i : Int) + 1 + offA xs i] = _; rw [t1], ⟨t3, t2, t4⟩⟩
      | false =>
        cases hj : jA xs i with
        | false => left; exact ⟨i + 1, by show [(i : Int) + 1] = _; rw [i1], next⟩
        | true =>
          obtain ⟨t, t1, t2, t3, t4⟩ := h.lands hi hj
          by_cases ho : offA xs i > 0
          · right
            exact ⟨i + 1, t, by rw [decide_eq_true ho]; show [(i : Int) + 1, (i : Int) + 1 + offA xs i] = _; rw [t1, i1], by omega, next, ⟨t3, t2, t4⟩⟩
          · left; exact ⟨i + 1, by rw [decide_eq_false ho]; show [(i : Int) + 1] = _; rw [i1], next⟩
/-- Loops lie within one another or apart. -/
theorem nest {b b' e e' : Nat} (hb : b' < b) (h : Clo (RA xs) (EA xs) b e) (h' : Clo (RA xs) (EA xs) b' e') : e' ≠ e ∧ (b < e' → ¬ e' < e) ∧ (e' > e → (stA xs b').length < (stA xs b).length) := by
  refine ⟨fun he => ?_, fun h1 h2 => ?_, fun h1 => ?_⟩
  · subst he; have := h.inj' h'; omega
  · have hm : b ∈ stA xs e' := h.mem.2 ⟨h1, by omega⟩
    rw [show stA xs e' = b' :: stA xs b' from h'.2.2.2] at hm
    rcases List.mem_cons.1 hm with hm | hm
    · omega
    · have := stk_lt hm; omega
  · have := h.1
    have hm : b' ∈ stA xs b := h'.mem.2 ⟨hb, by omega⟩
    obtain ⟨⟨u, hu⟩, -, -⟩ := stk_mem hm
    rw [show stA xs b = u ++ b' :: stA xs b' from hu]; simp; omega
/-- A loop of a program that may be. -/
theorem lo_at (h : Fine xs) {lv : SlV} (hs : Sl M 4 encLo lv.1 lv.2.1 lv.2.2 (lpA xs xs.length)) {k : Nat} (hk : k < lv.2.1) : ∃ (b e : Nat) (p : Nat × Nat), RA xs b = true ∧ rk (RA xs) b = k ∧ b < xs.length ∧ e < xs.length ∧ Clo (RA xs) (EA xs) b e ∧ slPtr lv.1 lv.2.2 = some p ∧
    M.ldI .i64 p.1 (p.2 + k * 4) = some (b : Int) ∧ M.ldI .i64 p.1 (p.2 + k * 4 + 1) = some (e : Int) ∧ M.ldI .i64 p.1 (p.2 + k * 4 + 1 + 1) = some (immA xs b) ∧ M.ldI .i64 p.1 (p.2 + k * 4 + 1 + 1 + 1) = some (((stA xs b).length + 1 : Nat) : Int) := by
  have hlen : lv.2.1 = rk (RA xs) xs.length := by rw [← hs.2, lps_length]
  obtain ⟨b, b1, b2, rfl⟩ := lps_all (R := RA xs) (T := immA xs) (by rw [← hlen]; exact hk)
  obtain ⟨e, e1, e2, e3⟩ := clo_ex h.closed b1 b2
  obtain ⟨p, p1, p2⟩ := hs.get encLo4 (by omega) hk
  have g := lps_get (E := EA xs) (T := immA xs) b2 b1
  have g' := (List.getElem?_eq_some_iff.1 g).2
  have kk : ∀ f v, f < 4 → (encLo (b, ea (RA xs) (EA xs) xs.length b, immA xs b, (stA xs b).length + 1))[f]? = some v → M.ld p.1 (p.2 + rk (RA xs) b * 4 + f) = some v := fun f v hf hv => by
    rw [Nat.add_assoc, p2 f hf, g']; exact hv
  rw [e3] at kk
  exact ⟨b, e, p, b2, rfl, b1, e1, e2, p1, ldI_ld.2 (kk 0 _ (by omega) rfl), ldI_ld.2 (kk 1 _ (by omega) rfl), ldI_ld.2 (kk 2 _ (by omega) rfl), ldI_ld.2 (kk 3 _ (by omega) rfl)⟩
theorem lbox (M : Mem) (w x y z : Int) : ∃ M', (M.alloc ⟨[.int .i64 0, .int .i64 0, .int .i64 0, .int .i64 0], .fixed⟩).st M.n 0 [.int .i64 w, .int .i64 x, .int .i64 y, .int .i64 z] = some M' ∧ M.Upto M' ∧ M'.get M.n = some ⟨[.int .i64 w, .int .i64 x, .int .i64 y, .int .i64 z], .fixed⟩ := by
  have g := get_alloc_self M ⟨[.int .i64 0, .int .i64 0, .int .i64 0, .int .i64 0], .fixed⟩
  refine ⟨_, st_fix g (by simp), ⟨by simp, fun o ho => ?_⟩, ?_⟩
  · rw [get_put_ne (by omega), get_alloc_lt ho]
  · rw [get_put_self (by simp)]; rfl
theorem lbox_rd {o : Nat} {w x y z : Int} (h : M.get o = some ⟨[.int .i64 w, .int .i64 x, .int .i64 y, .int .i64 z], .fixed⟩) : M.ldI .i64 o 0 = some w ∧ M.ldI .i64 o 1 = some x ∧ M.ldI .i64 o 2 = some y ∧ M.ldI .i64 o 3 = some z :=
  ⟨by rw [ldI_at h]; rfl, by rw [ldI_at h]; rfl, by rw [ldI_at h]; rfl, by rw [ldI_at h]; rfl⟩
theorem FlowLoops_C (hx : Sl M 5 encI a l c xs) (hc : Cut M a l c) (hr : ∀ x ∈ xs, InsR x) : ∃ M', C 5 [.sl a l c] M = some (.bool true, M') := by
  have hE := p5_0_eq C prog.meth a l c M
  obtain ⟨Mw, cw⟩ := works14_C
  obtain ⟨M1, v, t1, t2, t3, t4⟩ := Loops_C hx hc hr
  have hl := hx.2
  simp only [cw, t1, Option.bind_some, AVal.bool?, Bool.not_true, cond_false, AVal.tup?, List.head?_cons, AVal.sl?, List.tail_cons, int?_int, List.isEmpty_nil, cond_true] at hE
  by_cases h : (chkA xs).2 = 0
  rotate_left
  · simp only [bne0 h, cond_true] at hE
    rw [t3 h] at hE
    exact ⟨M1, c5 (hE.trans (p5_1_eq C prog.meth none 0 (.known 0) M1))⟩
  have hf := chkA_zero.1 h
  have hs := t4 h
  have h256 := hf.le
  simp only [bne0' h, cond_false] at hE
  have hlen : v.2.1 = rk (RA xs) xs.length := by rw [← hs.2, lps_length]
  have hv256 : v.2.1 ≤ 256 := by have := rk_id (R := RA xs) xs.length; omega
  have loop : ∀ (d k : Nat) (M2 : Mem), k + d = v.2.1 → M1.Upto M2 → ∃ M', p5_2 C prog.meth a l c v.1 v.2.1 v.2.2 (k : Int) M2 = some (.bool true, M') := by
    intro d
    induction d with
    | zero =>
      intro k M2 hk hu
      have hF := p5_2_eq C prog.meth a l c v.1 v.2.1 v.2.2 (k : Int) M2
      have q1 : ¬ ((k : Int) < (v.2.1 : Int)) := by omega
      obtain ⟨M3, s1, s2⟩ := Steps_C (hx.upto encI5 (by omega) (t2.trans hu)) (hc.upto (t2.trans hu)) hr
      rw [if_pos h] at s1
      obtain ⟨z1, z2⟩ := steps_le hf xs.length (Nat.le_refl _)
      have q2 : ((stepsA xs : Nat) : Int) ≥ (l : Int) := by unfold stepsA; omega
      have q3 : ((stepsA xs : Nat) : Int) ≤ IntKind.wrap .i64 (4096 * (l : Int)) := by
        rw [wrap_i64 (by omega) (by omega)]; unfold stepsA; omega
      simp only [q1, decide_false, cond_false, s1, Option.bind_some, AVal.tup?, List.head?_cons, List.tail_cons, int?_int, List.isEmpty_nil, cond_true, h, beq_self_eq_true, q2, q3, decide_true] at hF
      exact ⟨M3, hF⟩
    | succ d ih =>
      intro k M2 hk hu
      have hF := p5_2_eq C prog.meth a l c v.1 v.2.1 v.2.2 (k : Int) M2
      have hs2 := hs.upto encLo4 (by omega) hu
      obtain ⟨b, e, p, b1, b2, b3, e1, e2, p1, r0, r1, r2, r3⟩ := lo_at hf hs2 (k := k) (by omega)
      obtain ⟨M3, m1, m2, m3⟩ := lbox M2 (b : Int) (e : Int) (immA xs b) (((stA xs b).length + 1 : Nat) : Int)
      obtain ⟨y0, y1, y2, y3⟩ := lbox_rd m3
      have q1 : ((k : Int) < (v.2.1 : Int)) := by omega
      have k1 : (0 : Int) ≤ (k : Int) := by omega
      have k2 : Nat.blt k v.2.1 = true := Mem.blt_iff.2 (by omega)
      have hx3 := hx.upto encI5 (by omega) ((t2.trans hu).trans m2)
      obtain ⟨pb, g1, g2, -, -, -, -, -, g3⟩ := in_ld hx3 (i := b) (by omega)
      obtain ⟨pe, f1, f2, -⟩ := in_ld hx3 (i := e) (by omega)
      rw [g1] at f1; cases f1
      have hbe := e2.1
      have n1 : ¬ ((b : Int) < 0) := by omega
      have n2 : ¬ ((e : Int) ≤ (b : Int)) := by omega
      have n3 : ¬ ((e : Int) ≥ (l : Int)) := by omega
      have n4 : (0 : Int) ≤ (b : Int) := by omega
      have n5 : Nat.blt b l = true := Mem.blt_iff.2 (by omega)
      have n6 : (0 : Int) ≤ (e : Int) := by omega
      have n7 : Nat.blt e l = true := Mem.blt_iff.2 (by omega)
      have o1 : ((opA xs b : Int) != 33) = false := by
        rw [Nat.eq_of_beq_eq_true (show Nat.beq (opA xs b) 33 = true from b1)]; rfl
      have o2 : ((opA xs e : Int) != 34) = false := by
        rw [Nat.eq_of_beq_eq_true (show Nat.beq (opA xs e) 34 = true from e2.2.2.1)]; rfl
      have him := hf.T b1
      have w : IntKind.wrap .i64 (immA xs b) = immA xs b := wrap_i64 (by omega) (by omega)
      have hd := hf.deep b b3 b1
      have n8 : ¬ ((((stA xs b).length + 1 : Nat) : Int) < 1) := by omega
      have n9 : ¬ ((((stA xs b).length + 1 : Nat) : Int) > 3) := by omega
      simp only [q1, k1, k2, decide_true, cond_true, Int.toNat_natCast, p1, Option.bind_some, r0, r1, r2, r3, m1, y0, y1, y2, y3, n1, n2, n3, n4, n5, n6, n7, n8, n9, decide_false, cond_false, g1, g2, g3, f2, Nat.add_zero, o1, o2, w, bne_self_eq_false] at hF
      have inner : ∀ (d' k' : Nat) (M4 : Mem), k' + d' = k → M3.Upto M4 → ∃ M', p5_4 C prog.meth a l c v.1 v.2.1 v.2.2 (k : Int) M2.n (k' : Int) M4 = some (.bool true, M') := by
        intro d'
        induction d' with
        | zero =>
          intro k' M4 hk' hu'
          have hG := p5_4_eq C prog.meth a l c v.1 v.2.1 v.2.2 (k : Int) M2.n (k' : Int) M4
          have q2 : ¬ ((k' : Int) < (k : Int)) := by omega
          have w1 : IntKind.wrap .i64 ((k : Int) + 1) = ((k + 1 : Nat) : Int) := by rw [wrap_i64 (by omega) (by omega)]; rfl
          simp only [q2, decide_false, cond_false, w1] at hG
          obtain ⟨M', u1⟩ := ih (k + 1) M4 (by omega) ((hu.trans m2).trans hu')
          exact ⟨M', hG.trans u1⟩
        | succ d' ih' =>
          intro k' M4 hk' hu'
          have hG := p5_4_eq C prog.meth a l c v.1 v.2.1 v.2.2 (k : Int) M2.n (k' : Int) M4
          have hs4 := hs.upto encLo4 (by omega) ((hu.trans m2).trans hu')
          obtain ⟨b', e', p', b1', b2', b3', e1', e2', p1', r0', r1', r2', r3'⟩ := lo_at hf hs4 (k := k') (by omega)
          obtain ⟨M5, m1', m2', m3'⟩ := lbox M4 (b' : Int) (e' : Int) (immA xs b') (((stA xs b').length + 1 : Nat) : Int)
          obtain ⟨y0', y1', y2', y3'⟩ := lbox_rd m3'
          obtain ⟨x0', x1', x2', x3'⟩ := lbox_rd ((hu'.trans m2').get m3)
          have q2 : ((k' : Int) < (k : Int)) := by omega
          have k1' : (0 : Int) ≤ (k' : Int) := by omega
          have k2' : Nat.blt k' v.2.1 = true := Mem.blt_iff.2 (by omega)
          have hbb : b' < b := by
            rcases Nat.lt_trichotomy b' b with h1 | h1 | h1
            · exact h1
            · subst h1; omega
            · have := rk_lt b1 h1; omega
          obtain ⟨ne1, ne2, ne3⟩ := nest hbb e2 e2'
          have n1' : ¬ ((b' : Int) ≥ (b : Int)) := by omega
          have n2' : ((e' : Int) == (e : Int)) = false := by simp; omega
          have w1 : IntKind.wrap .i64 ((k' : Int) + 1) = ((k' + 1 : Nat) : Int) := by rw [wrap_i64 (by omega) (by omega)]; rfl
          obtain ⟨M', u1⟩ := ih' (k' + 1) M5 (by omega) (hu'.trans m2')
          simp only [q2, k1', k2', decide_true, cond_true, Int.toNat_natCast, p1', Option.bind_some, r0', r1', r2', r3', m1', y0', y1', y2', y3', x0', x1', x2', x3', n1', n2', decide_false, cond_false, w1] at hG
          refine ⟨M', hG.trans ?_⟩
          rw [← u1]
          by_cases c1 : (e' : Int) > (b : Int)
          · have c2 : ¬ ((e' : Int) < (e : Int)) := by
              have := ne2 (by omega); omega
            by_cases c3 : (e' : Int) > (e : Int)
            · have c4 : ¬ ((((stA xs b).length + 1 : Nat) : Int) ≤ (((stA xs b').length + 1 : Nat) : Int)) := by
                have := ne3 (by omega); omega
              simp only [c1, c2, c3, c4, decide_true, decide_false, cond_true, cond_false]
            · simp only [c1, c2, c3, decide_true, decide_false, cond_true, cond_false]
          · by_cases c3 : (e' : Int) > (e : Int)
            · have c4 : ¬ ((((stA xs b).length + 1 : Nat) : Int) ≤ (((stA xs b').length + 1 : Nat) : Int)) := by
                have := ne3 (by omega); omega
              simp only [c1, c3, c4, decide_true, decide_false, cond_true, cond_false]
            · simp only [c1, c3, decide_true, decide_false, cond_true, cond_false]
      have hF3 := p5_3_eq C prog.meth a l c v.1 v.2.1 v.2.2 (k : Int) M2.n M3
      obtain ⟨M', u1⟩ := inner k 0 M3 (by omega) (Mem.Upto.refl _)
      exact ⟨M', hF.trans (hF3.trans u1)⟩
  obtain ⟨M', u1⟩ := loop v.2.1 0 M1 (by omega) (Mem.Upto.refl _)
  exact ⟨M', c5 (hE.trans u1)⟩
end
/-- FlowLoops. -/
theorem FlowLoops_law : ∀ avs M, M.Whole → okL M.n avs → ShowsArgs M [(false, [.sl 12 [.int .u8, .int .u8, .int .u8, .int .i16, .int .i32]])] avs → ∃ M', C 5 avs M = some (.bool true, M') := by
  intro avs M hM hok h
  simp only [ShowsArgs, ShowsArg] at h
  obtain ⟨v, _, rfl, ⟨t, ht, hv⟩, rfl⟩ := h
  obtain rfl : t = .sl 12 [.int .u8, .int .u8, .int .u8, .int .i16, .int .i32] := by simpa using ht.symm
  obtain ⟨a, l, c, xs, rfl, hx, hc, hl, hr⟩ := code_of hv
  exact FlowLoops_C hx hc hr
end Go.Proofs.Ytjfhapfdahdniaa.M
