/- The package flow: Check, Loops, Steps, Next. -/
import Derived.Test.YtjfhapfdahdniaaGD
set_option linter.unusedVariables false
set_option linter.unusedSimpArgs false
set_option linter.unnecessarySimpa false
set_option maxRecDepth 100000
namespace Go.Proofs.Ytjfhapfdahdniaa.M
open Go.Abs Go.RowKit

section
variable {xs : List Ins} {M M0 M1 : Mem} {a : Option (Nat × Nat)} {l : Nat} {c : Cap} {s : Nat}
theorem FCheck_C (hx : Sl M 5 encI a l c xs) (hc : Cut M a l c) (hr : ∀ x ∈ xs, InsR x) : ∃ M', C 14 [.sl a l c] M = some (.tup [.int .i64 (chkA xs).1, .int .i64 (chkA xs).2], M') ∧ M.Upto M' := by
  have hE := p14_0_eq C prog.meth a l c M
  obtain ⟨M', po, t1, t2, t3⟩ := check_C hx hc hr
  simp only [t1, Option.bind_some, AVal.tup?, List.head?_cons, AVal.ptr?, List.tail_cons, int?_int, List.isEmpty_nil, cond_true] at hE
  exact ⟨M', c14 hE, t2⟩
theorem bne0 {z : Int} (h : z ≠ 0) : (z != 0) = true := by simpa using h
theorem bne0' {z : Int} (h : z = 0) : (z != 0) = false := by subst h; rfl
theorem Loops_C (hx : Sl M 5 encI a l c xs) (hc : Cut M a l c) (hr : ∀ x ∈ xs, InsR x) : ∃ (M' : Mem) (v : SlV), C 16 [.sl a l c] M = some (.tup [.sl v.1 v.2.1 v.2.2, .int .i64 (chkA xs).2], M') ∧ M.Upto M' ∧ ((chkA xs).2 ≠ 0 → v = ((none, 0, .known 0) : SlV)) ∧ ((chkA xs).2 = 0 → Sl M' 4 encLo v.1 v.2.1 v.2.2 (lpA xs xs.length)) := by
  have hE := p16_0_eq C prog.meth a l c M
  obtain ⟨M', po, t1, t2, t3⟩ := check_C hx hc hr
  simp only [t1, Option.bind_some, AVal.tup?, List.head?_cons, AVal.ptr?, List.tail_cons, int?_int, List.isEmpty_nil, cond_true] at hE
  by_cases h : (chkA xs).2 = 0
  · obtain ⟨s, rfl, hs⟩ := t3 h
    obtain ⟨lv, q, g1, g2, g3⟩ := hs.g
    have e : M'.ldL s 0 = some lv := by rw [ldL_at g1]; rfl
    simp only [bne0' h, cond_false, Option.bind_some, Nat.zero_add, e] at hE
    exact ⟨M', lv, by rw [h]; exact c16 hE, t2, fun hh => absurd h hh, fun _ => g2⟩
  · simp only [bne0 h, cond_true] at hE
    exact ⟨M', (none, 0, .known 0), c16 hE, t2, fun _ => rfl, fun hh => absurd hh h⟩
theorem prd_le (h : Fine xs) : ∀ (l : List Nat), (∀ b ∈ l, RA xs b = true) → prd (TA xs) l ≤ 16 ^ l.length ∧ 1 ≤ prd (TA xs) l
  | [], _ => ⟨Nat.le_refl _, Nat.le_refl _⟩
  | b :: l, hl => by
    obtain ⟨h1, h2⟩ := prd_le h l (fun x hx => hl x (List.mem_cons_of_mem _ hx))
    obtain ⟨t1, t2, -⟩ := h.T (hl b List.mem_cons_self)
    show TA xs b * prd (TA xs) l ≤ 16 ^ (l.length + 1) ∧ 1 ≤ TA xs b * prd (TA xs) l
    constructor
    · rw [Nat.pow_succ, Nat.mul_comm]
      exact Nat.mul_le_mul h1 t2
    · exact Nat.mul_pos t1 h2
theorem relw_le (h : Fine xs) {i : Nat} (hi : i ≤ xs.length) : relw (RA xs) (EA xs) (TA xs) 0 i = prd (TA xs) (stA xs i) ∧ 1 ≤ relw (RA xs) (EA xs) (TA xs) 0 i ∧ relw (RA xs) (EA xs) (TA xs) 0 i ≤ 4096 := by
  have e : relw (RA xs) (EA xs) (TA xs) 0 i = prd (TA xs) (stA xs i) := by
    unfold relw; rw [Nat.sub_zero, List.take_length]
  obtain ⟨h1, h2⟩ := prd_le h (stA xs i) (fun b hb => stk_R hb)
  have := h.len3 i hi
  have h3 : 16 ^ (stA xs i).length ≤ 16 ^ 3 := Nat.pow_le_pow_right (by omega) this
  rw [e]
  exact ⟨rfl, h2, by omega⟩
theorem sm_last {R E : Nat → Bool} {T : Nat → Nat} {d i : Nat} : sm R E T d 0 (i + 1) = sm R E T d 0 i + relw R E T d i := by
  rw [sm_split (b := i) (by omega) (by omega), sm_head (a := i) (by omega), sm_nil (a := i + 1) (by omega)]; rfl
theorem steps_le (h : Fine xs) : ∀ i, i ≤ xs.length → i ≤ sm (RA xs) (EA xs) (TA xs) 0 0 i ∧ sm (RA xs) (EA xs) (TA xs) 0 0 i ≤ 4096 * i
  | 0, _ => ⟨Nat.zero_le _, by rw [sm_nil (by omega)]; omega⟩
  | i + 1, hi => by
    have ih := steps_le h i (by omega)
    obtain ⟨_, h1, h2⟩ := relw_le h (i := i) (by omega)
    rw [sm_last]; omega
theorem Steps_C (hx : Sl M 5 encI a l c xs) (hc : Cut M a l c) (hr : ∀ x ∈ xs, InsR x) : ∃ M', C 15 [.sl a l c] M = some (.tup [.int .i64 (if (chkA xs).2 = 0 then (stepsA xs : Int) else 0), .int .i64 (chkA xs).2], M') ∧ M.Upto M' := by
  have hE := p15_0_eq C prog.meth a l c M
  obtain ⟨M', po, t1, t2, t3⟩ := check_C hx hc hr
  have hl := hx.2
  simp only [t1, Option.bind_some, AVal.tup?, List.head?_cons, AVal.ptr?, List.tail_cons, int?_int, List.isEmpty_nil, cond_true] at hE
  by_cases h : (chkA xs).2 = 0
  · obtain ⟨s, rfl, hs⟩ := t3 h
    have hf := chkA_zero.1 h
    simp only [bne0' h, cond_false] at hE
    obtain ⟨lv, q, r1, r2, r3, r4, r5⟩ := hs.rd
    have inner : ∀ N j, j ≤ N → ∀ (acc sum i : Int) (m : Nat), acc = (m : Int) → m * 16 ^ (stA xs j).length ≤ 4096 → p15_2 C prog.meth (some (s, 0)) sum acc (tix xs j) (l : Int) i M' = p15_1 C prog.meth (some (s, 0)) (IntKind.wrap .i64 (sum + ((m * prd (TA xs) (stA xs j) : Nat) : Int))) (l : Int) (IntKind.wrap .i64 (i + 1)) M' := by
      intro N
      induction N with
      | zero =>
        intro j hj acc sum i m hm hb
        obtain rfl : j = 0 := by omega
        have hF := p15_2_eq C prog.meth (some (s, 0)) sum acc (tix xs 0) (l : Int) i M'
        have e : tix xs 0 = -1 := tix_nil rfl
        rw [e] at hF ⊢
        simp only [ge_iff_le, Int.reduceNeg, Int.reduceLE, decide_false, cond_false] at hF
        rw [hF, hm]
        show _ = p15_1 C prog.meth (some (s, 0)) (IntKind.wrap .i64 (sum + ((m * 1 : Nat) : Int))) _ _ _
        rw [Nat.mul_one]
      | succ N ih =>
        intro j hj acc sum i m hm hb
        have hF := p15_2_eq C prog.meth (some (s, 0)) sum acc (tix xs j) (l : Int) i M'
        cases hst : stA xs j with
        | nil =>
          have e : tix xs j = -1 := tix_nil hst
          rw [e] at hF ⊢
          simp only [ge_iff_le, Int.reduceNeg, Int.reduceLE, decide_false, cond_false] at hF
          rw [hF, hm]
          show _ = p15_1 C prog.meth (some (s, 0)) (IntKind.wrap .i64 (sum + ((m * 1 : Nat) : Int))) _ _ _
          rw [Nat.mul_one]
        | cons b r =>
          obtain ⟨b1, b2, b3⟩ := stk_cons j hst
          obtain ⟨u1, u2, u3⟩ := hf.T b2
          have b4 : stA xs b = r := b3.symm
          rw [tix_cons hst] at hF ⊢
          obtain ⟨p, p1, p2, p3, p4, p5, p6⟩ := r5 b b2
          have k1 : ((rk (RA xs) b : Int) ≥ 0) := by omega
          have k2 : Nat.blt (rk (RA xs) b) lv.2.1 = true := Mem.blt_iff.2 p6
          have k3 : (0 : Int) ≤ (rk (RA xs) b : Int) := by omega
          rw [hst, List.length_cons, Nat.pow_succ] at hb
          have hpow : 1 ≤ 16 ^ r.length := Nat.pow_pos (by omega)
          have hb' : m * TA xs b * 16 ^ r.length ≤ 4096 := by
            have : m * TA xs b * 16 ^ r.length ≤ m * (16 ^ r.length * 16) := by
              rw [Nat.mul_assoc]
              apply Nat.mul_le_mul_left
              rw [Nat.mul_comm]
              exact Nat.mul_le_mul_left _ u2
            omega
          have hb2 : m * TA xs b ≤ 4096 := by
            have := Nat.mul_le_mul_left (m * TA xs b) hpow
            omega
          have w : IntKind.wrap .i64 (acc * (TA xs b : Int)) = ((m * TA xs b : Nat) : Int) := by
            rw [hm, ← Int.natCast_mul, wrap_i64 (by omega) (by omega)]
          rw [up_C hs b2] at hF
          simp only [k1, k2, k3, decide_true, cond_true, Option.bind_some, Nat.zero_add, r1, Int.toNat_natCast, p1, p4, u3, int?_int, w] at hF
          rw [hF, ih b (by omega) _ sum i (m * TA xs b) rfl (by rw [b4]; exact hb'), b4]
          congr 3
          show _ = ((m * (TA xs b * prd (TA xs) r) : Nat) : Int)
          rw [Nat.mul_assoc]
    have loop : ∀ (d i : Nat), i + d = xs.length → p15_1 C prog.meth (some (s, 0)) (sm (RA xs) (EA xs) (TA xs) 0 0 i : Nat) (l : Int) (i : Int) M' = some (.tup [.int .i64 (stepsA xs : Int), .int .i64 0], M') := by
      intro d
      induction d with
      | zero =>
        intro i hi
        have hF := p15_1_eq C prog.meth (some (s, 0)) (sm (RA xs) (EA xs) (TA xs) 0 0 i : Nat) (l : Int) (i : Int) M'
        have q1 : ¬ ((i : Int) < (l : Int)) := by omega
        simp only [q1, decide_false, cond_false] at hF
        obtain rfl : i = xs.length := by omega
        exact hF
      | succ d ih =>
        intro i hi
        have hF := p15_1_eq C prog.meth (some (s, 0)) (sm (RA xs) (EA xs) (TA xs) 0 0 i : Nat) (l : Int) (i : Int) M'
        have q1 : ((i : Int) < (l : Int)) := by omega
        have k1 : (0 : Int) ≤ (i : Int) := by omega
        have k2 : Nat.blt i xs.length = true := Mem.blt_iff.2 (by omega)
        have sq : slPtr (some (q, 0)) (.known xs.length) = some (q, 0) := rfl
        have e := r4 i (by omega)
        simp only [q1, k1, k2, decide_true, cond_true, Option.bind_some, Nat.zero_add, r2, Int.toNat_natCast, sq, Nat.mul_one, e] at hF
        have h3 := hf.len3 i (by omega)
        have h4 : 16 ^ (stA xs i).length ≤ 16 ^ 3 := Nat.pow_le_pow_right (by omega) h3
        rw [inner i i (Nat.le_refl _) 1 _ _ 1 rfl (by omega), Nat.one_mul] at hF
        obtain ⟨v1, v2, v3⟩ := relw_le hf (i := i) (by omega)
        obtain ⟨z1, z2⟩ := steps_le hf i (by omega)
        have hle := hf.le
        have w1 : IntKind.wrap .i64 ((sm (RA xs) (EA xs) (TA xs) 0 0 i : Nat) + ((prd (TA xs) (stA xs i) : Nat) : Int)) = ((sm (RA xs) (EA xs) (TA xs) 0 0 (i + 1) : Nat) : Int) := by
          rw [← v1, wrap_i64 (by omega) (by omega), sm_last]; omega
        have w2 : IntKind.wrap .i64 ((i : Int) + 1) = ((i + 1 : Nat) : Int) := by rw [wrap_i64 (by omega) (by omega)]; rfl
        rw [w1, w2] at hF
        exact hF.trans (ih (i + 1) (by omega))
    have := loop xs.length 0 (by omega)
    rw [sm_nil (by omega)] at this
    exact ⟨M', by rw [if_pos h, h]; exact c15 (hE.trans this), t2⟩
  · simp only [bne0 h, cond_true] at hE
    exact ⟨M', by rw [if_neg h]; exact c15 hE, t2⟩
theorem stillN {M : Mem} {o i : Nat} {vs : List AVal} (h0 : 0 < vs.length) (h : ∀ j, j < vs.length → M.ld o (i + j) = vs[j]?) : M.still o i vs = true := by
  have h00 := h 0 h0
  rw [List.getElem?_eq_getElem h0] at h00
  unfold Mem.ld at h00
  obtain ⟨cs, h1, h2⟩ := Option.bind_eq_some_iff.1 h00
  have hj : ∀ j, j < vs.length → cs[i + j]? = vs[j]? := fun j hj => by
    have := h j hj
    unfold Mem.ld at this
    rw [h1] at this
    exact this
  have hlen : i + vs.length ≤ cs.length := by
    have := hj (vs.length - 1) (by omega)
    rw [List.getElem?_eq_getElem (show vs.length - 1 < vs.length by omega)] at this
    have := (List.getElem?_eq_some_iff.1 this).1
    omega
  have hr : M.raw o i vs.length = some vs := by
    refine raw_iff.2 ⟨cs, h1, hlen, ?_⟩
    apply List.ext_getElem?
    intro j
    by_cases hjl : j < vs.length
    · rw [List.getElem?_take_of_lt hjl, List.getElem?_drop, hj j hjl]
    · rw [List.getElem?_eq_none (by omega), List.getElem?_eq_none (by simp; omega)]
  unfold Mem.still
  rw [hr]
  exact sameL_refl _
theorem opI {n : Nat} (k : Nat) : ((n : Int) == (k : Int)) = Nat.beq n k := by
  by_cases h : n = k
  · rw [h, Nat.beq_refl]; simp
  · rw [beq_false h]; simp; omega
theorem Next_C (hx : Sl M 5 encI a l c xs) (hc : Cut M a l c) (hr : ∀ x ∈ xs, InsR x) (n : Int) : ∃ (M' : Mem) (v : SlV), C 9 [.sl a l c, .int .i64 n] M = some (.tup [.sl v.1 v.2.1 v.2.2, .int .i64 (nextA xs n).2], M') ∧ M.Upto M' ∧ M'.ints .i64 v.1 v.2.1 v.2.2 = some (nextA xs n).1 ∧ ∀ o ∈ fpS v, M.n ≤ o := by
  have nil : ∀ o ∈ fpS ((none, 0, .known 0) : SlV), M.n ≤ o := fun o ho => by simp [fpS] at ho
  have fr : ∀ (N : Mem) (k : Nat), M.Upto N → ∀ o ∈ fpS ((some (N.n, 0), k, .known k) : SlV), M.n ≤ o := fun N k hN o ho => by
    unfold fpS at ho
    split at ho
    · cases ho
    · obtain rfl : o = N.n := by simpa [fpOf] using ho
      exact hN.1
  have hE := p9_0_eq C prog.meth a l c n M
  obtain ⟨M1, po, t1, t2, t3⟩ := check_C hx hc hr
  have hl := hx.2
  simp only [t1, Option.bind_some, AVal.tup?, List.head?_cons, AVal.ptr?, List.tail_cons, int?_int, List.isEmpty_nil, cond_true] at hE
  by_cases h : (chkA xs).2 = 0
  rotate_left
  · simp only [bne0 h, cond_true] at hE
    refine ⟨M1, (none, 0, .known 0), ?_, t2, ?_⟩
    · unfold nextA; rw [if_pos h]; exact c9 hE
    · unfold nextA; rw [if_pos h]; exact ⟨rfl, nil⟩
  obtain ⟨s, rfl, hs⟩ := t3 h
  have hf := chkA_zero.1 h
  have h256 := hf.le
  simp only [bne0' h, cond_false] at hE
  by_cases hn : n < 0
  · simp only [hn, decide_true, cond_true] at hE
    refine ⟨M1, (none, 0, .known 0), ?_, t2, ?_⟩
    · unfold nextA; rw [if_neg (by simpa using h), if_pos (.inl hn)]; exact c9 hE
    · unfold nextA; rw [if_neg (by simpa using h), if_pos (.inl hn)]; exact ⟨rfl, nil⟩
  by_cases hn2 : n ≥ (l : Int)
  · simp only [hn, hn2, decide_false, cond_false, decide_true, cond_true] at hE
    refine ⟨M1, (none, 0, .known 0), ?_, t2, ?_⟩
    · unfold nextA; rw [if_neg (by simpa using h), if_pos (.inr (by omega))]; exact c9 hE
    · unfold nextA; rw [if_neg (by simpa using h), if_pos (.inr (by omega))]; exact ⟨rfl, nil⟩
  obtain ⟨i, rfl⟩ : ∃ i : Nat, n = (i : Int) := ⟨n.toNat, by omega⟩
  have hnx : nextA xs (i : Int) = (nxA xs i, 0) := by unfold nextA; rw [if_neg (by simpa using h), if_neg (by omega), Int.toNat_natCast]
  rw [hnx]
  simp only [hn, hn2, decide_false, cond_false] at hE
  have hil : i < l := by omega
  have hG := p9_1_eq C prog.meth a l c (i : Int) (some (s, 0)) M1
  obtain ⟨pp, p1, d1, d2, d3, d4, d5, -, -⟩ := in_ld (hx.upto encI5 (by omega) t2) hil
  simp only [opA, offA, immA] at d1 d2 d3 d4 d5
  obtain ⟨M2, m1, m2, m3, m4⟩ := ibox M1 (iA xs i)
  obtain ⟨r0, r1, r2, r3, r4⟩ := ibox_rd m4
  obtain ⟨_, j1, -⟩ := jumps_C (iA xs i) Mem.empty
  have k1 : (0 : Int) ≤ (i : Int) := by omega
  have k2 : Nat.blt i l = true := Mem.blt_iff.2 hil
  have e36 := opI (n := (iA xs i).1) 36
  have e22 := opI (n := (iA xs i).1) 22
  have e34 := opI (n := (iA xs i).1) 34
  simp only [Int.cast_ofNat_Int] at e36 e22 e34
  simp only [k1, k2, decide_true, cond_true, Int.toNat_natCast, p1, Option.bind_some, d1, d2, d3, d4, d5, m1, r0, e36] at hG
  have hu2 := t2.trans m2
  have hs2 := hs.upto m2
  have w1 : IntKind.wrap .i64 ((i : Int) + 1) = (i : Int) + 1 := wrap_i64 (by omega) (by omega)
  have hof : -32768 ≤ offA xs i ∧ offA xs i < 32768 := by
    have : InsR (iA xs i) := by rw [iA_get (by omega)]; exact hr _ (List.getElem_mem (by omega))
    exact this.o
  have w2 : IntKind.wrap .i64 (IntKind.wrap .i64 ((i : Int) + 1) + IntKind.wrap .i64 (offA xs i)) = (i : Int) + 1 + offA xs i := by
    rw [w1, wrap_i64 (n := offA xs i) (by omega) (by omega), wrap_i64 (by omega) (by omega)]
  have wo : (iA xs i).2.2.2.1 = offA xs i := rfl
  have one : ∀ (z : Int) (N : Mem), (N.alloc ⟨[.int .i64 z], .fixed⟩).ints .i64 (some (N.n, 0)) 1 (.known 1) = some [z] := fun z N => ints_whole (xs := [z]) (c := .known 1) (kd := .fixed) (get_alloc_self _ _) (by simp) rfl
  have two : ∀ (z y : Int) (N : Mem), (N.alloc ⟨[.int .i64 z, .int .i64 y], .fixed⟩).ints .i64 (some (N.n, 0)) 2 (.known 2) = some [z, y] := fun z y N => ints_whole (xs := [z, y]) (c := .known 2) (kd := .fixed) (get_alloc_self _ _) (by simp) rfl
  unfold nxA
  cases h36 : Nat.beq (opA xs i) 36 with
  | true =>
    rw [show Nat.beq (iA xs i).1 36 = true from h36, cond_true] at hG
    exact ⟨M2, (none, 0, .known 0), c9 (hE.trans hG), hu2, rfl, nil⟩
  | false =>
    rw [show Nat.beq (iA xs i).1 36 = false from h36, cond_false] at hG
    have h2 := p9_2_eq C prog.meth (i : Int) (some (s, 0)) M1.n M2
    simp only [r0, r3, Option.bind_some, e22, wo, w2] at h2
    have hG2 := hE.trans (hG.trans h2)
    clear h2 hE hG
    cases h22 : Nat.beq (opA xs i) 22 with
    | true =>
      rw [show Nat.beq (iA xs i).1 22 = true from h22, cond_true] at hG2
      exact ⟨_, (some (M2.n, 0), 1, .known 1), c9 hG2, hu2.trans (Mem.Upto.alloc _ _), one _ _, fr _ _ hu2⟩
    | false =>
      rw [show Nat.beq (iA xs i).1 22 = false from h22, cond_false] at hG2
      have h3 := p9_3_eq C prog.meth (i : Int) (some (s, 0)) M1.n M2
      have hj : (Nat.beq (iA xs i).1 22 || (Nat.ble 23 (iA xs i).1 && Nat.ble (iA xs i).1 32)) = jA xs i := rfl
      simp only [r0, r1, r2, r3, r4, Option.bind_some, j1, hj, AVal.bool?] at h3
      simp only [wo, w2] at h3
      rw [w1] at h3
      have h6 := p9_6_eq C prog.meth (i : Int) M2
      rw [w1] at h6
      have last : p9_4 C prog.meth (i : Int) (some (s, 0)) M1.n M2 = p9_3 C prog.meth (i : Int) (some (s, 0)) M1.n M2 → ∃ (M' : Mem) (v : SlV), C 9 [.sl a l c, .int .i64 (i : Int)] M = some (.tup [.sl v.1 v.2.1 v.2.2, .int .i64 0], M') ∧ M.Upto M' ∧ M'.ints .i64 v.1 v.2.1 v.2.2 = some (if EA xs i then (match stA xs i with
          | b :: _ => if immA xs b > 1 then [(b : Int) + 1, (i : Int) + 1] else [(i : Int) + 1]
          | [] => [(i : Int) + 1]) else [(i : Int) + 1]) ∧ ∀ o ∈ fpS v, M.n ≤ o := by
        intro e43
        have h4 := p9_4_eq C prog.meth (i : Int) (some (s, 0)) M1.n M2
        simp only [r0, Option.bind_some, e34] at h4
        have hG4 := hG2.trans (e43.symm.trans h4)
        cases hEE : EA xs i with
        | false =>
          rw [show Nat.beq (iA xs i).1 34 = false from hEE, cond_false] at hG4
          exact ⟨_, (some (M2.n, 0), 1, .known 1), c9 (hG4.trans h6), hu2.trans (Mem.Upto.alloc _ _), one _ _, fr _ _ hu2⟩
        | true =>
          rw [show Nat.beq (iA xs i).1 34 = true from hEE, cond_true] at hG4
          have h5 := p9_5_eq C prog.meth (i : Int) (some (s, 0)) M2
          have hRR : RA xs i = false := by
            unfold RA; unfold EA at hEE
            rw [Nat.eq_of_beq_eq_true hEE]; rfl
          cases hst : stA xs i with
          | nil => exact absurd hst (hf.ends i (by omega) hRR hEE)
          | cons b r =>
            obtain ⟨b1, b2, b3⟩ := stk_cons i hst
            obtain ⟨lv, q, g1, g2, g3⟩ := hs2.g
            obtain ⟨lv', q', v1, v2, v3, v4, v5⟩ := hs2.rd
            have e0 : M2.ldL s 0 = some lv := by rw [ldL_at g1]; rfl
            have e1 : M2.ldL s 1 = some (some (q, 0), xs.length, .known xs.length) := by rw [ldL_at g1]; rfl
            rw [v1] at e0; cases e0
            rw [v2] at e1; cases e1
            obtain ⟨p, q1, q2, q3, q4, q5, q6⟩ := v5 b b2
            have y1 : Nat.blt i xs.length = true := Mem.blt_iff.2 (by omega)
            have y2 : (0 : Int) ≤ (rk (RA xs) b : Int) := by omega
            have y3 : Nat.blt (rk (RA xs) b) lv.2.1 = true := Mem.blt_iff.2 q6
            have sq : slPtr (some (q, 0)) (.known xs.length) = some (q, 0) := rfl
            have e2 := v4 i (by omega)
            rw [tix_cons hst] at e2
            obtain ⟨M3, ea3, ga3, ua3, na3⟩ := alloc_at M2 ⟨[.int .i64 0, .int .i64 0, .int .i64 0, .int .i64 0], .fixed⟩
            have st3 := st_fix (i := 0) (vs := [.int .i64 (b : Int), .int .i64 (ea (RA xs) (EA xs) xs.length b), .int .i64 (immA xs b), .int .i64 (((stA xs b).length + 1 : Nat) : Int)]) ga3 (by simp)
            generalize hM4 : M3.put M2.n _ = M4 at st3
            have g4 : M4.get M2.n = some ⟨[.int .i64 (b : Int), .int .i64 (ea (RA xs) (EA xs) xs.length b), .int .i64 (immA xs b), .int .i64 (((stA xs b).length + 1 : Nat) : Int)], .fixed⟩ := by
              rw [← hM4]; exact get_put_self (by omega)
            have hu4 : M2.Upto M4 := by
              refine ⟨by rw [← hM4]; show _ ≤ M3.n; omega, fun o ho => ?_⟩
              rw [← hM4, get_put_ne (by omega)]; exact ua3.2 o ho
            have l2 : M4.ldI .i64 M2.n 2 = some (immA xs b) := by rw [ldI_at g4]; rfl
            have l0 : M4.ldI .i64 M2.n 0 = some (b : Int) := by rw [ldI_at g4]; rfl
            have t0 : M3.still s 0 [.sl lv.1 lv.2.1 lv.2.2] = true := still1 (by rw [ld_fix (ua3.get g1)]; rfl)
            have t1' : M3.still s 1 [.sl (some (q, 0)) xs.length (.known xs.length)] = true := still1 (by rw [ld_fix (ua3.get g1)]; rfl)
            have t2' : M3.still q i [.int .i64 (rk (RA xs) b : Int)] = true := still1 (by
              have e2' := ldI_ld.1 e2
              have hq := Mem.get_lt g3
              rw [ld_same (ua3.2 q hq)]; exact e2')
            have hsl4 : ∀ f v, M2.ld p.1 f = some v → M3.ld p.1 f = some v := fun f v hv => by
              rw [ld_same (ua3.2 p.1 (ld_lt hv))]; exact hv
            have t3' : M3.still p.1 (p.2 + rk (RA xs) b * 4) [.int .i64 (b : Int), .int .i64 (ea (RA xs) (EA xs) xs.length b), .int .i64 (immA xs b), .int .i64 (((stA xs b).length + 1 : Nat) : Int)] = true := by
              have a0 := hsl4 _ _ (ldI_ld.1 q2)
              have a1 := hsl4 _ _ (ldI_ld.1 q3)
              have a2 := hsl4 _ _ (ldI_ld.1 q4)
              have a3 := hsl4 _ _ (ldI_ld.1 q5)
              refine stillN (by simp) (fun j hj => ?_)
              have : j = 0 ∨ j = 1 ∨ j = 2 ∨ j = 3 := by simp at hj; omega
              rcases this with rfl | rfl | rfl | rfl
              · exact a0
              · exact a1
              · exact a2
              · exact a3
            have y4 : ∀ z, p.2 + rk (RA xs) b * 4 + 1 + 1 = z → z = p.2 + rk (RA xs) b * 4 + 2 := fun z h => by omega
            have q4' : M2.ldI .i64 p.1 (p.2 + rk (RA xs) b * 4 + 1 + 1) = some (immA xs b) := q4
            have q5' : M2.ldI .i64 p.1 (p.2 + rk (RA xs) b * 4 + 1 + 1 + 1) = some (((stA xs b).length + 1 : Nat) : Int) := q5
            simp only [Option.bind_some, Nat.zero_add, v1, v2, k1, y1, y2, y3, decide_true, cond_true, Int.toNat_natCast, sq, Nat.mul_one, e2, q1, q2, q3, q4', q5', ea3, st3, t0, t1', t2', t3', l2, l0] at h5
            have w3 : IntKind.wrap .i64 ((b : Int) + 1) = (b : Int) + 1 := wrap_i64 (by omega) (by omega)
            rw [w1, w3] at h5
            by_cases him : immA xs b > 1
            · simp only [him, decide_true, cond_true] at h5
              refine ⟨_, (some (M4.n, 0), 2, .known 2), c9 (hG4.trans h5), (hu2.trans hu4).trans (Mem.Upto.alloc _ _), ?_, fr _ _ (hu2.trans hu4)⟩
              show _ = some (if immA xs b > 1 then [(b : Int) + 1, (i : Int) + 1] else [(i : Int) + 1])
              rw [if_pos him]; exact two _ _ _
            · simp only [him, decide_false, cond_false] at h5
              have h6' := p9_6_eq C prog.meth (i : Int) M4
              rw [w1] at h6'
              refine ⟨_, (some (M4.n, 0), 1, .known 1), c9 (hG4.trans (h5.trans h6')), (hu2.trans hu4).trans (Mem.Upto.alloc _ _), ?_, fr _ _ (hu2.trans hu4)⟩
              show _ = some (if immA xs b > 1 then [(b : Int) + 1, (i : Int) + 1] else [(i : Int) + 1])
              rw [if_neg him]; exact one _ _
      cases hjj : jA xs i with
      | false =>
        rw [hjj, cond_false] at h3
        exact last h3.symm
      | true =>
        rw [hjj, cond_true] at h3
        by_cases ho : offA xs i > 0
        · simp only [ho, decide_true, cond_true] at h3
          refine ⟨_, (some (M2.n, 0), 2, .known 2), c9 (hG2.trans h3), hu2.trans (Mem.Upto.alloc _ _), ?_, fr _ _ hu2⟩
          rw [decide_eq_true ho]; exact two _ _ _
        · simp only [ho, decide_false, cond_false] at h3
          rw [decide_eq_false ho]
          exact last h3.symm
end
end Go.Proofs.Ytjfhapfdahdniaa.M
