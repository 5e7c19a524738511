/- The document's answer for flow: what is wrong, what comes next. -/
import Derived.Test.YtjfhapfdahdniaaGF
set_option linter.unusedVariables false
set_option linter.unusedSimpArgs false
set_option linter.unnecessarySimpa false
set_option maxRecDepth 100000
namespace Go.Proofs.Ytjfhapfdahdniaa.M
open Go.Abs Go.RowKit

section
variable {xs : List Ins} {M M0 M1 : Mem} {a : Option (Nat × Nat)} {l : Nat} {c : Cap} {s : Nat}
def wrA (xs : List Ins) (i : Nat) : Bool := (EA xs i && decide (stA xs i = [])) || (RA xs i && (decide (eaA xs i < 0) || decide (3 ≤ (stA xs i).length))) || (jA xs i && !landsA xs i) || (Nat.beq (i + 1) xs.length && !Nat.beq (opA xs i) 36)
theorem RE_not {i : Nat} (h : EA xs i = true) : RA xs i = false := by
  unfold RA; unfold EA at h
  rw [Nat.eq_of_beq_eq_true h]; rfl
theorem ea_neg {i : Nat} (hR : RA xs i = true) : eaA xs i < 0 ↔ i ∈ stA xs xs.length := by
  obtain ⟨h1, h2⟩ := ea_mem (E := EA xs) hR (RA_lt hR)
  by_cases hm : i ∈ stA xs xs.length
  · have e : eaA xs i = -1 := h1 hm
    exact ⟨fun _ => hm, fun _ => by omega⟩
  · obtain ⟨e, k1, k2, k3⟩ := h2 hm
    have k3 : eaA xs i = (e : Int) := k3
    exact ⟨fun h => by omega, fun h => absurd h hm⟩
theorem fine_wr (h0 : 0 < xs.length) (h256 : xs.length ≤ 256) (hok : ∀ i, i < xs.length → okA (iA xs i) = true) : Fine xs ↔ ∀ i, i < xs.length → wrA xs i = false := by
  constructor
  · intro h i hi
    have hj := h.jb i hi
    unfold jbA at hj
    simp only [Bool.or_eq_false_iff] at hj
    unfold wrA
    rw [hj.1, hj.2, Bool.or_false, Bool.or_false]
    have e1 : (EA xs i && decide (stA xs i = [])) = false := by
      cases hE : EA xs i with
      | false => rfl
      | true => rw [decide_eq_false (h.ends i hi (RE_not hE) hE)]; rfl
    have e2 : (RA xs i && (decide (eaA xs i < 0) || decide (3 ≤ (stA xs i).length))) = false := by
      cases hR : RA xs i with
      | false => rfl
      | true =>
        have h1 := h.deep i hi hR
        have h2 : ¬ eaA xs i < 0 := fun hh => by
          have := (ea_neg hR).1 hh
          rw [h.closed] at this; cases this
        rw [decide_eq_false h2, decide_eq_false (by omega)]; rfl
    rw [e1, e2]; rfl
  · intro h
    have hh : ∀ i, i < xs.length → (EA xs i && decide (stA xs i = [])) = false ∧ (RA xs i && (decide (eaA xs i < 0) || decide (3 ≤ (stA xs i).length))) = false ∧ (jA xs i && !landsA xs i) = false ∧ (Nat.beq (i + 1) xs.length && !Nat.beq (opA xs i) 36) = false := fun i hi => by
      have := h i hi
      unfold wrA at this
      simp only [Bool.or_eq_false_iff] at this
      exact ⟨this.1.1.1, this.1.1.2, this.1.2, this.2⟩
    refine ⟨h0, h256, hok, fun i hi => ?_, ?_, fun i hi hR => ?_, fun i hi hR hE hs => ?_⟩
    · obtain ⟨_, _, h3, h4⟩ := hh i hi
      unfold jbA; rw [h3, h4]; rfl
    · cases hs : stA xs xs.length with
      | nil => rfl
      | cons b r =>
        have hm : b ∈ stA xs xs.length := by rw [hs]; exact List.mem_cons_self
        have hb := stk_lt hm
        have hR : RA xs b = true := stk_R hm
        have := (hh b hb).2.1
        rw [hR, decide_eq_true ((ea_neg hR).2 hm)] at this
        cases this
    · have := (hh i hi).2.1
      rw [hR] at this
      simp only [Bool.true_and, Bool.or_eq_false_iff, decide_eq_false_iff_not] at this
      omega
    · have := (hh i hi).1
      rw [hE, decide_eq_true hs] at this
      cases this
theorem wrong_C (hx : Sl M 5 encI a l c xs) (h256 : l ≤ 256) {i : Nat} (hil : i < l) (hok : okA (iA xs i) = true) (hr : InsR (iA xs i)) : ∃ M', C 31 [.sl a l c, .int .i64 (i : Int)] M = some (.bool (wrA xs i), M') ∧ M.Upto M' := by
  have hl := hx.2
  have hE := p31_0_eq C prog.meth a l c (i : Int) M
  obtain ⟨pp, p1, d1, d2, d3, d4, d5, -, -⟩ := in_ld hx hil
  simp only [opA, offA, immA] at d1 d2 d3 d4 d5
  obtain ⟨M2, m1, m2, m3, m4⟩ := ibox M (iA xs i)
  have k1 : (0 : Int) ≤ (i : Int) := by omega
  have k2 : Nat.blt i l = true := Mem.blt_iff.2 hil
  obtain ⟨r0, r1, r2, r3, r4⟩ := ibox_rd m4
  have e34 : (((iA xs i).1 : Int) == 34) = EA xs i := opI 34
  have e33 : (((iA xs i).1 : Int) == 33) = RA xs i := opI 33
  have hx2 := hx.upto encI5 (by omega) m2
  simp only [k1, k2, decide_true, cond_true, Int.toNat_natCast, p1, Option.bind_some, d1, d2, d3, d4, d5, m1, r0, e34] at hE
  obtain ⟨_, j1, -⟩ := Rjumps_C (iA xs i) Mem.empty
  have hj : (Nat.beq (iA xs i).1 22 || (Nat.ble 23 (iA xs i).1 && Nat.ble (iA xs i).1 32)) = jA xs i := rfl
  have e36 : (((iA xs i).1 : Int) != 36) = !Nat.beq (opA xs i) 36 := by
    unfold opA
    by_cases h : (iA xs i).1 = 36
    · rw [h]; rfl
    · rw [beq_false h]; simp; omega
  have w2 : IntKind.wrap .i64 ((l : Int) - 1) = ((l - 1 : Nat) : Int) := by rw [wrap_i64 (by omega) (by omega)]; omega
  have el : ((i : Int) == ((l - 1 : Nat) : Int)) = Nat.beq (i + 1) xs.length := by
    by_cases h : i + 1 = xs.length
    · rw [h, Nat.beq_refl]; simp; omega
    · rw [beq_false h]; simp; omega
  -- the last question
  have q4 : ∀ M3, M2.Upto M3 → p31_4 C prog.meth a l c (i : Int) M.n M3 = some (.bool (Nat.beq (i + 1) xs.length && !Nat.beq (opA xs i) 36), M3) := fun M3 hu => by
    have hF := p31_4_eq C prog.meth a l c (i : Int) M.n M3
    have r0' := (ibox_rd (hu.get m4)).1
    simp only [w2, el, r0', Option.bind_some, e36] at hF
    rw [hF]
    cases Nat.beq (i + 1) xs.length <;> rfl
  -- jumps
  have q2 : ∀ M3, M2.Upto M3 → ∃ M', p31_2 C prog.meth a l c (i : Int) M.n M3 = some (.bool ((jA xs i && !landsA xs i) || (Nat.beq (i + 1) xs.length && !Nat.beq (opA xs i) 36)), M') ∧ M3.Upto M' := fun M3 hu => by
    have hF := p31_2_eq C prog.meth a l c (i : Int) M.n M3
    obtain ⟨r0', r1', r2', r3', r4'⟩ := ibox_rd (hu.get m4)
    simp only [r0', r1', r2', r3', r4', Option.bind_some, j1, hj, AVal.bool?] at hF
    cases hji : jA xs i with
    | false =>
      rw [hji, cond_false] at hF
      exact ⟨M3, hF.trans (q4 M3 hu), Mem.Upto.refl _⟩
    | true =>
      rw [hji, cond_true] at hF
      have hG := p31_3_eq C prog.meth a l c (i : Int) M.n M3
      have hof := okA_j hok hji
      have wo : (iA xs i).2.2.2.1 = offA xs i := rfl
      obtain ⟨t, ht⟩ : ∃ t : Nat, (i : Int) + 1 + offA xs i = (t : Int) := ⟨((i : Int) + 1 + offA xs i).toNat, by omega⟩
      have w : IntKind.wrap .i64 (IntKind.wrap .i64 ((i : Int) + 1) + IntKind.wrap .i64 (offA xs i)) = (t : Int) := by
        rw [wrap_i64 (n := (i : Int) + 1) (by omega) (by omega), wrap_i64 (n := offA xs i) (by omega) (by omega), wrap_i64 (by omega) (by omega), ht]
      simp only [r3', Option.bind_some, wo, w] at hG
      unfold landsA
      rw [ht, Int.toNat_natCast]
      by_cases hge : t < xs.length
      · have q1 : ¬ ((t : Int) ≥ (l : Int)) := by omega
        have hx3 := hx2.upto encI5 (by omega) hu
        obtain ⟨M4, v, a1, a2, a3⟩ := Inside_C hx3 (by omega) (n := i) (by omega)
        have hx4 := hx3.upto encI5 (by omega) a2
        obtain ⟨M5, v', b1, b2, b3⟩ := Inside_C hx4 (by omega) (n := t) (by omega)
        simp only [q1, decide_false, cond_false, a1, b1, Option.bind_some, AVal.sl?] at hG
        have a3' := ints_upto a3 b2
        have hvl : v.2.1 < 2 ^ 40 := by
          have := ints_length a3
          have h2 := stA_len (xs := xs) i
          simp at this; omega
        have hvl' : v'.2.1 = (stA xs t).length := by
          have := ints_length b3
          simp at this; omega
        have hts := stA_len (xs := xs) t
        obtain ⟨-, c2⟩ := ints_iff.1 b3
        have loop : ∀ (d k : Nat), k + d = v'.2.1 → ∃ M', p31_5 C prog.meth a l c (i : Int) M.n v.1 v.2.1 v.2.2 v'.1 v'.2.1 v'.2.2 (k : Int) M5 = some (.bool (!(((stA xs t).reverse.drop k).all fun b => (stA xs i).contains b) || (Nat.beq (i + 1) xs.length && !Nat.beq (opA xs i) 36)), M') ∧ M5.Upto M' := by
          intro d
          induction d with
          | zero =>
            intro k hk
            have hH := p31_5_eq C prog.meth a l c (i : Int) M.n v.1 v.2.1 v.2.2 v'.1 v'.2.1 v'.2.2 (k : Int) M5
            have z1 : ¬ ((k : Int) < (v'.2.1 : Int)) := by omega
            simp only [z1, decide_false, cond_false] at hH
            rw [List.drop_eq_nil_of_le (by simp; omega)]
            exact ⟨M5, hH.trans (q4 M5 ((hu.trans a2).trans b2)), Mem.Upto.refl _⟩
          | succ d ih =>
            intro k hk
            have hH := p31_5_eq C prog.meth a l c (i : Int) M.n v.1 v.2.1 v.2.2 v'.1 v'.2.1 v'.2.2 (k : Int) M5
            have z1 : ((k : Int) < (v'.2.1 : Int)) := by omega
            have z2 : (0 : Int) ≤ (k : Int) := by omega
            have z3 : Nat.blt k v'.2.1 = true := Mem.blt_iff.2 (by omega)
            have w1 : IntKind.wrap .i64 ((k : Int) + 1) = ((k + 1 : Nat) : Int) := by rw [wrap_i64 (by omega) (by omega)]; rfl
            obtain ⟨p, y1, y2⟩ := c2 k (by omega)
            have hkr : k < (stA xs t).reverse.length := by simp; omega
            rw [List.getElem?_map, List.getElem?_eq_getElem hkr] at y2
            simp only [Option.map_some] at y2
            have hh := has_C a3' hvl (((stA xs t).reverse[k]'hkr : Nat) : Int)
            simp only [z1, z2, z3, decide_true, cond_true, Int.toNat_natCast, y1, Option.bind_some, Nat.mul_one, y2, hh, AVal.bool?, w1] at hH
            have ec : ((stA xs i).reverse.map (fun b : Nat => (b : Int))).contains (((stA xs t).reverse[k]'hkr : Nat) : Int) = (stA xs i).contains ((stA xs t).reverse[k]'hkr) := by
              rw [Bool.eq_iff_iff, List.contains_iff_mem, List.contains_iff_mem, List.mem_map]
              constructor
              · rintro ⟨b, hb, hbe⟩
                have : b = (stA xs t).reverse[k]'hkr := by omega
                rw [← this]; exact List.mem_reverse.1 hb
              · intro hb; exact ⟨_, List.mem_reverse.2 hb, rfl⟩
            rw [ec] at hH
            rw [List.drop_eq_getElem_cons hkr, List.all_cons]
            cases hcc : (stA xs i).contains ((stA xs t).reverse[k]'hkr) with
            | false =>
              rw [hcc] at hH
              exact ⟨M5, hH, Mem.Upto.refl _⟩
            | true =>
              rw [hcc] at hH
              obtain ⟨M', t1, t2⟩ := ih (k + 1) (by omega)
              exact ⟨M', hH.trans t1, t2⟩
        obtain ⟨M', t1, t2⟩ := loop v'.2.1 0 (by omega)
        rw [List.drop_zero, List.all_reverse] at t1
        rw [decide_eq_true hge]
        exact ⟨M', hF.trans (hG.trans t1), (a2.trans b2).trans t2⟩
      · have q1 : ((t : Int) ≥ (l : Int)) := by omega
        simp only [q1, decide_true, cond_true] at hG
        rw [decide_eq_false hge]
        exact ⟨M3, hF.trans hG, Mem.Upto.refl _⟩
  -- OpRep
  have q1 : ∀ M3, M2.Upto M3 → ∃ M', p31_1 C prog.meth a l c (i : Int) M.n M3 = some (.bool ((RA xs i && (decide (eaA xs i < 0) || decide (3 ≤ (stA xs i).length))) || ((jA xs i && !landsA xs i) || (Nat.beq (i + 1) xs.length && !Nat.beq (opA xs i) 36))), M') ∧ M3.Upto M' := fun M3 hu => by
    have hF := p31_1_eq C prog.meth a l c (i : Int) M.n M3
    have r0' := (ibox_rd (hu.get m4)).1
    simp only [r0', Option.bind_some, e33] at hF
    cases hR : RA xs i with
    | false =>
      rw [hR, cond_false] at hF
      obtain ⟨M', t1, t2⟩ := q2 M3 hu
      exact ⟨M', hF.trans t1, t2⟩
    | true =>
      have hx3 := hx2.upto encI5 (by omega) hu
      rw [hR, cond_true, Closes_C hx3 (by omega) hR, Option.bind_some] at hF
      simp only [int?_int, Option.bind_some] at hF
      by_cases h1 : eaA xs i < 0
      · simp only [h1, decide_true, cond_true] at hF
        rw [decide_eq_true h1]
        exact ⟨M3, hF, Mem.Upto.refl _⟩
      · obtain ⟨M4, v, a1, a2, a3⟩ := Inside_C hx3 (by omega) (n := i) (by omega)
        have hvl : v.2.1 = (stA xs i).length := by
          have := ints_length a3
          simp at this; omega
        simp only [h1, decide_false, cond_false, a1, Option.bind_some, AVal.sl?] at hF
        rw [decide_eq_false h1]
        by_cases h2 : 3 ≤ (stA xs i).length
        · have z : ((v.2.1 : Int) ≥ 3) := by omega
          simp only [z, decide_true, cond_true] at hF
          rw [decide_eq_true h2]
          exact ⟨M4, hF, a2⟩
        · have z : ¬ ((v.2.1 : Int) ≥ 3) := by omega
          simp only [z, decide_false, cond_false] at hF
          rw [decide_eq_false h2]
          obtain ⟨M', t1, t2⟩ := q2 M4 (hu.trans a2)
          exact ⟨M', hF.trans t1, a2.trans t2⟩
  unfold wrA
  rw [Bool.or_assoc, Bool.or_assoc]
  cases hEE : EA xs i with
  | false =>
    rw [hEE, cond_false] at hE
    obtain ⟨M', t1, t2⟩ := q1 M2 (Mem.Upto.refl _)
    exact ⟨M', c31 (hE.trans t1), m2.trans t2⟩
  | true =>
    rw [hEE, cond_true, opens_C hx2 (by omega) hil (RE_not hEE) hEE, Option.bind_some] at hE
    simp only [AVal.bool?, Option.bind_some] at hE
    by_cases hs : stA xs i = []
    · have : decide (stA xs i ≠ []) = false := decide_eq_false (fun h => h hs)
      rw [this] at hE
      rw [decide_eq_true hs]
      exact ⟨M2, c31 hE, m2⟩
    · rw [decide_eq_true hs] at hE
      rw [decide_eq_false hs]
      obtain ⟨M', t1, t2⟩ := q1 M2 (Mem.Upto.refl _)
      exact ⟨M', c31 (hE.trans t1), m2.trans t2⟩
theorem RFCheck_C (hx : Sl M 5 encI a l c xs) (hr : ∀ x ∈ xs, InsR x) : ∃ M' pl, C 23 [.sl a l c] M = some (.tup [.int .i64 pl, .int .i64 (chkA xs).2], M') ∧ M.Upto M' := by
  have hl := hx.2
  have hE := p23_0_eq C prog.meth a l c M
  by_cases h256 : (l : Int) > 256
  · simp only [h256, decide_true, cond_true] at hE
    have e : chkA xs = (0, 3) := by unfold chkA; rw [if_pos (by omega)]
    rw [e]
    exact ⟨M, 0, c23 hE, Mem.Upto.refl _⟩
  by_cases h0 : l = 0
  · simp only [h256, decide_false, cond_false, h0, Int.cast_ofNat_Int, beq_self_eq_true, cond_true] at hE
    have e : chkA xs = (0, 140) := by unfold chkA; rw [if_neg (by omega), if_pos (by omega)]
    rw [e, h0]
    exact ⟨M, 0, c23 hE, Mem.Upto.refl _⟩
  have q0 : ((l : Int) == 0) = false := by simp; omega
  simp only [h256, decide_false, cond_false, q0] at hE
  have hIn : ∀ i, i < xs.length → InsR (iA xs i) := fun i hi => by rw [iA_get hi]; exact hr _ (List.getElem_mem hi)
  have unf : chkA xs = chkI xs xs.length 0 := by unfold chkA; rw [if_neg (by omega), if_neg (by omega)]
  have loop2 : (∀ j, j < xs.length → okA (iA xs j) = true) → ∀ (d i : Nat) (M1 : Mem), i + d = l → (∀ j, j < i → wrA xs j = false) → M.Upto M1 → ∃ M' pl, p23_2 C prog.meth a l c (i : Int) M1 = some (.tup [.int .i64 pl, .int .i64 (chkJ xs (badA xs) 0).2], M') ∧ M.Upto M' := by
    intro hok d
    have hj : (chkJ xs (badA xs) 0).2 = 0 ↔ ∀ i, i < xs.length → wrA xs i = false := by
      rw [← fine_wr (by omega) (by omega) hok, ← chkA_zero, unf]
      unfold chkI
      have : fst (fun i => !okA (iA xs i)) xs.length 0 = none := (fst_none _ _).2 (fun j _ hj => by rw [hok j (by omega)]; rfl)
      rw [this]
    have hj140 : (chkJ xs (badA xs) 0).2 ≠ 0 → (chkJ xs (badA xs) 0).2 = 140 := by
      unfold chkJ
      split
      · intro _; rfl
      · split
        · intro _; rfl
        · intro h; exact absurd rfl h
    induction d with
    | zero =>
      intro i M1 hi hw hu
      have hF := p23_2_eq C prog.meth a l c (i : Int) M1
      have q1 : ¬ ((i : Int) < (l : Int)) := by omega
      simp only [q1, decide_false, cond_false] at hF
      rw [hj.2 (fun j hjl => hw j (by omega))]
      exact ⟨M1, 0, hF, hu⟩
    | succ d ih =>
      intro i M1 hi hw hu
      have hF := p23_2_eq C prog.meth a l c (i : Int) M1
      have q1 : ((i : Int) < (l : Int)) := by omega
      have w1 : IntKind.wrap .i64 ((i : Int) + 1) = ((i + 1 : Nat) : Int) := by rw [wrap_i64 (by omega) (by omega)]; rfl
      obtain ⟨M2, t1, t2⟩ := wrong_C (hx.upto encI5 (by omega) hu) (by omega) (i := i) (by omega) (hok i (by omega)) (hIn i (by omega))
      simp only [q1, decide_true, cond_true, t1, Option.bind_some, AVal.bool?, w1] at hF
      cases hwi : wrA xs i with
      | true =>
        rw [hwi, cond_true] at hF
        rw [hj140 (fun h => by have := hj.1 h i (by omega); rw [hwi] at this; cases this)]
        exact ⟨M2, (i : Int), hF, hu.trans t2⟩
      | false =>
        rw [hwi, cond_false] at hF
        obtain ⟨M', pl, u1, u2⟩ := ih (i + 1) M2 (by omega) (fun j hj => by
          by_cases h : j = i
          · subst h; exact hwi
          · exact hw j (by omega)) (hu.trans t2)
        exact ⟨M', pl, hF.trans u1, u2⟩
  have loop1 : ∀ (d i : Nat), i + d = l → (∀ j, j < i → okA (iA xs j) = true) → ∃ M' pl, p23_1 C prog.meth a l c (i : Int) M = some (.tup [.int .i64 pl, .int .i64 (chkI xs d i).2], M') ∧ M.Upto M' := by
    intro d
    induction d with
    | zero =>
      intro i hi hok
      have hF := p23_1_eq C prog.meth a l c (i : Int) M
      have q1 : ¬ ((i : Int) < (l : Int)) := by omega
      simp only [q1, decide_false, cond_false] at hF
      obtain ⟨M', pl, u1, u2⟩ := loop2 (fun j hj => hok j (by omega)) l 0 M (by omega) (fun j hj => by omega) (Mem.Upto.refl _)
      exact ⟨M', pl, hF.trans u1, u2⟩
    | succ d ih =>
      intro i hi hok
      have hF := p23_1_eq C prog.meth a l c (i : Int) M
      have hil : i < l := by omega
      have q1 : ((i : Int) < (l : Int)) := by omega
      have k1 : (0 : Int) ≤ (i : Int) := by omega
      have k2 : Nat.blt i l = true := Mem.blt_iff.2 hil
      obtain ⟨pp, p1, d1, d2, d3, d4, d5, -, -⟩ := in_ld hx hil
      simp only [opA, offA, immA] at d1 d2 d3 d4 d5
      obtain ⟨_, j1, -⟩ := RCheck_C (M := Mem.empty) (hIn i (by omega))
      have w1 : IntKind.wrap .i64 ((i : Int) + 1) = ((i + 1 : Nat) : Int) := by rw [wrap_i64 (by omega) (by omega)]; rfl
      simp only [q1, decide_true, cond_true, k1, Int.toNat_natCast, k2, p1, Option.bind_some, d1, d2, d3, d4, d5, j1, int?_int, w1] at hF
      have ho : okB (iA xs i).1 (iA xs i).2.1 (iA xs i).2.2.1 (iA xs i).2.2.2.1 (iA xs i).2.2.2.2 = okA (iA xs i) := rfl
      rw [ho] at hF
      cases hc : okA (iA xs i) with
      | true =>
        rw [hc] at hF
        have e : chkI xs (d + 1) i = chkI xs d (i + 1) := by
          unfold chkI; rw [fst, if_neg (by simp only [hc]; simp)]
        rw [e]
        obtain ⟨M', pl, u1, u2⟩ := ih (i + 1) (by omega) (fun j hj => by
          by_cases hji : j = i
          · subst hji; exact hc
          · exact hok j (by omega))
        exact ⟨M', pl, hF.trans u1, u2⟩
      | false =>
        rw [hc] at hF
        have e : chkI xs (d + 1) i = ((i : Int), 130) := by
          unfold chkI; rw [fst, if_pos (by simp only [hc]; rfl)]
        rw [e]
        exact ⟨M, (i : Int), hF, Mem.Upto.refl _⟩
  obtain ⟨M', pl, u1, u2⟩ := loop1 l 0 (by omega) (fun j hj => by omega)
  rw [unf, hl]
  exact ⟨M', pl, c23 (hE.trans u1), u2⟩
theorem RNext_C (hx : Sl M 5 encI a l c xs) (hr : ∀ x ∈ xs, InsR x) (n : Int) : ∃ (M' : Mem) (v : SlV), C 10 [.sl a l c, .int .i64 n] M = some (.tup [.sl v.1 v.2.1 v.2.2, .int .i64 (nextA xs n).2], M') ∧ M.Upto M' ∧ M'.ints .i64 v.1 v.2.1 v.2.2 = some (nextA xs n).1 := by
  have hE := p10_0_eq C prog.meth a l c n M
  obtain ⟨M1, pl, t1, t2⟩ := RFCheck_C hx hr
  have hl := hx.2
  simp only [t1, Option.bind_some, AVal.tup?, List.head?_cons, List.tail_cons, int?_int, List.isEmpty_nil, cond_true] at hE
  by_cases h : (chkA xs).2 = 0
  rotate_left
  · simp only [bne0 h, cond_true] at hE
    refine ⟨M1, (none, 0, .known 0), ?_, t2, ?_⟩
    · unfold nextA; rw [if_pos h]; exact c10 hE
    · unfold nextA; rw [if_pos h]; rfl
  have hf := chkA_zero.1 h
  have h256 := hf.le
  simp only [bne0' h, cond_false] at hE
  by_cases hn : n < 0
  · simp only [hn, decide_true, cond_true] at hE
    refine ⟨M1, (none, 0, .known 0), ?_, t2, ?_⟩
    · unfold nextA; rw [if_neg (by simpa using h), if_pos (.inl hn)]; exact c10 hE
    · unfold nextA; rw [if_neg (by simpa using h), if_pos (.inl hn)]; rfl
  by_cases hn2 : n ≥ (l : Int)
  · simp only [hn, hn2, decide_false, cond_false, decide_true, cond_true] at hE
    refine ⟨M1, (none, 0, .known 0), ?_, t2, ?_⟩
    · unfold nextA; rw [if_neg (by simpa using h), if_pos (.inr (by omega))]; exact c10 hE
    · unfold nextA; rw [if_neg (by simpa using h), if_pos (.inr (by omega))]; rfl
  obtain ⟨i, rfl⟩ : ∃ i : Nat, n = (i : Int) := ⟨n.toNat, by omega⟩
  have hnx : nextA xs (i : Int) = (nxA xs i, 0) := by unfold nextA; rw [if_neg (by simpa using h), if_neg (by omega), Int.toNat_natCast]
  rw [hnx]
  simp only [hn, hn2, decide_false, cond_false] at hE
  have hil : i < l := by omega
  have hx1 := hx.upto encI5 (by omega) t2
  have hG := p10_1_eq C prog.meth a l c (i : Int) M1
  obtain ⟨pp, p1, d1, d2, d3, d4, d5, -, -⟩ := in_ld hx1 hil
  simp only [opA, offA, immA] at d1 d2 d3 d4 d5
  obtain ⟨M2, m1, m2, m3, m4⟩ := ibox M1 (iA xs i)
  obtain ⟨r0, r1, r2, r3, r4⟩ := ibox_rd m4
  obtain ⟨_, j1, -⟩ := Rjumps_C (iA xs i) Mem.empty
  have k1 : (0 : Int) ≤ (i : Int) := by omega
  have k2 : Nat.blt i l = true := Mem.blt_iff.2 hil
  have e36 := opI (n := (iA xs i).1) 36
  have e22 := opI (n := (iA xs i).1) 22
  have e34 := opI (n := (iA xs i).1) 34
  simp only [Int.cast_ofNat_Int] at e36 e22 e34
  have hu2 := t2.trans m2
  have hx2 := hx1.upto encI5 (by omega) m2
  have w1 : IntKind.wrap .i64 ((i : Int) + 1) = (i : Int) + 1 := wrap_i64 (by omega) (by omega)
  have hof : -32768 ≤ offA xs i ∧ offA xs i < 32768 := by
    have : InsR (iA xs i) := by rw [iA_get (by omega)]; exact hr _ (List.getElem_mem (by omega))
    exact this.o
  have w2 : IntKind.wrap .i64 (IntKind.wrap .i64 ((i : Int) + 1) + IntKind.wrap .i64 (offA xs i)) = (i : Int) + 1 + offA xs i := by
    rw [w1, wrap_i64 (n := offA xs i) (by omega) (by omega), wrap_i64 (by omega) (by omega)]
  have wo : (iA xs i).2.2.2.1 = offA xs i := rfl
  simp only [k1, k2, decide_true, cond_true, Int.toNat_natCast, p1, Option.bind_some, d1, d2, d3, d4, d5, m1, r0, r3, e36] at hG
  rw [wo, w2] at hG
  have one : ∀ (z : Int) (N : Mem), (N.alloc ⟨[.int .i64 z], .fixed⟩).ints .i64 (some (N.n, 0)) 1 (.known 1) = some [z] := fun z N => ints_whole (xs := [z]) (c := .known 1) (kd := .fixed) (get_alloc_self _ _) (by simp) rfl
  have two : ∀ (z y : Int) (N : Mem), (N.alloc ⟨[.int .i64 z, .int .i64 y], .fixed⟩).ints .i64 (some (N.n, 0)) 2 (.known 2) = some [z, y] := fun z y N => ints_whole (xs := [z, y]) (c := .known 2) (kd := .fixed) (get_alloc_self _ _) (by simp) rfl
  unfold nxA
  cases h36 : Nat.beq (opA xs i) 36 with
  | true =>
    rw [show Nat.beq (iA xs i).1 36 = true from h36, cond_true] at hG
    exact ⟨M2, (none, 0, .known 0), c10 (hE.trans hG), hu2, rfl⟩
  | false =>
    rw [show Nat.beq (iA xs i).1 36 = false from h36, cond_false] at hG
    have h2 := p10_2_eq C prog.meth a l c (i : Int) M1.n ((i : Int) + 1 + offA xs i) M2
    simp only [r0, Option.bind_some, e22] at h2
    have hG2 := hE.trans (hG.trans h2)
    clear h2 hE hG
    cases h22 : Nat.beq (opA xs i) 22 with
    | true =>
      rw [show Nat.beq (iA xs i).1 22 = true from h22, cond_true] at hG2
      exact ⟨_, (some (M2.n, 0), 1, .known 1), c10 hG2, hu2.trans (Mem.Upto.alloc _ _), one _ _⟩
    | false =>
      rw [show Nat.beq (iA xs i).1 22 = false from h22, cond_false] at hG2
      have h3 := p10_3_eq C prog.meth a l c (i : Int) M1.n ((i : Int) + 1 + offA xs i) M2
      have hj : (Nat.beq (iA xs i).1 22 || (Nat.ble 23 (iA xs i).1 && Nat.ble (iA xs i).1 32)) = jA xs i := rfl
      simp only [r0, r1, r2, r3, r4, Option.bind_some, j1, hj, AVal.bool?] at h3
      simp only [wo, w1] at h3
      have last : p10_4 C prog.meth a l c (i : Int) M1.n M2 = p10_3 C prog.meth a l c (i : Int) M1.n ((i : Int) + 1 + offA xs i) M2 → ∃ (M' : Mem) (v : SlV), C 10 [.sl a l c, .int .i64 (i : Int)] M = some (.tup [.sl v.1 v.2.1 v.2.2, .int .i64 0], M') ∧ M.Upto M' ∧ M'.ints .i64 v.1 v.2.1 v.2.2 = some (if EA xs i then (match stA xs i with
          | b :: _ => if immA xs b > 1 then [(b : Int) + 1, (i : Int) + 1] else [(i : Int) + 1]
          | [] => [(i : Int) + 1]) else [(i : Int) + 1]) := by
        intro e43
        have h4 := p10_4_eq C prog.meth a l c (i : Int) M1.n M2
        simp only [r0, Option.bind_some, e34] at h4
        have hG4 := hG2.trans (e43.symm.trans h4)
        have h6 := p10_6_eq C prog.meth (i : Int) M2
        rw [w1] at h6
        cases hEE : EA xs i with
        | false =>
          rw [show Nat.beq (iA xs i).1 34 = false from hEE, cond_false] at hG4
          exact ⟨_, (some (M2.n, 0), 1, .known 1), c10 (hG4.trans h6), hu2.trans (Mem.Upto.alloc _ _), one _ _⟩
        | true =>
          rw [show Nat.beq (iA xs i).1 34 = true from hEE, cond_true] at hG4
          have h5 := p10_5_eq C prog.meth a l c (i : Int) M2
          cases hst : stA xs i with
          | nil => exact absurd hst (hf.ends i (by omega) (RE_not hEE) hEE)
          | cons b r =>
            obtain ⟨b1, b2, b3⟩ := stk_cons i hst
            obtain ⟨M3, v, a1, a2, a3⟩ := Inside_C hx2 (by omega) (n := i) (by omega)
            rw [hst, List.reverse_cons, List.map_append] at a3
            obtain ⟨a4, a5⟩ := ints_iff.1 a3
            have hvl : v.2.1 = r.length + 1 := by simpa using a4.symm
            have hsl := stA_len (xs := xs) i
            rw [hst, List.length_cons] at hsl
            have w3 : IntKind.wrap .i64 ((v.2.1 : Int) - 1) = (r.length : Int) := by rw [hvl, wrap_i64 (by omega) (by omega)]; omega
            have y1 : (0 : Int) ≤ (r.length : Int) := by omega
            have y2 : Nat.blt r.length v.2.1 = true := Mem.blt_iff.2 (by omega)
            obtain ⟨p, y3, y4⟩ := a5 r.length (by omega)
            have y5 : M3.ldI .i64 p.1 (p.2 + r.length) = some (b : Int) := by
              rw [y4, List.getElem?_append_right (by simp)]; simp
            have y6 : (0 : Int) ≤ (b : Int) := by omega
            have y7 : Nat.blt b l = true := Mem.blt_iff.2 (by omega)
            obtain ⟨p', z1, -, -, -, -, -, -, z2⟩ := in_ld (hx2.upto encI5 (by omega) a2) (i := b) (by omega)
            have w4 : IntKind.wrap .i64 ((b : Int) + 1) = (b : Int) + 1 := wrap_i64 (by omega) (by omega)
            simp only [a1, Option.bind_some, AVal.sl?, w3, y1, y2, decide_true, cond_true, Int.toNat_natCast, y3, Nat.mul_one, y5, y6, y7, z1, z2, w4, w1] at h5
            by_cases him : immA xs b > 1
            · simp only [him, decide_true, cond_true] at h5
              refine ⟨_, (some (M3.n, 0), 2, .known 2), c10 (hG4.trans h5), (hu2.trans a2).trans (Mem.Upto.alloc _ _), ?_⟩
              show _ = some (if immA xs b > 1 then [(b : Int) + 1, (i : Int) + 1] else [(i : Int) + 1])
              rw [if_pos him]; exact two _ _ _
            · simp only [him, decide_false, cond_false] at h5
              have h6' := p10_6_eq C prog.meth (i : Int) M3
              rw [w1] at h6'
              refine ⟨_, (some (M3.n, 0), 1, .known 1), c10 (hG4.trans (h5.trans h6')), (hu2.trans a2).trans (Mem.Upto.alloc _ _), ?_⟩
              show _ = some (if immA xs b > 1 then [(b : Int) + 1, (i : Int) + 1] else [(i : Int) + 1])
              rw [if_neg him]; exact one _ _
      cases hjj : jA xs i with
      | false =>
        rw [hjj, cond_false] at h3
        exact last h3.symm
      | true =>
        rw [hjj, cond_true] at h3
        by_cases ho : offA xs i > 0
        · simp only [ho, decide_true, cond_true] at h3
          refine ⟨_, (some (M2.n, 0), 2, .known 2), c10 (hG2.trans h3), hu2.trans (Mem.Upto.alloc _ _), ?_⟩
          rw [decide_eq_true ho]; exact two _ _ _
        · simp only [ho, decide_false, cond_false] at h3
          rw [decide_eq_false ho]
          exact last h3.symm
end
end Go.Proofs.Ytjfhapfdahdniaa.M
