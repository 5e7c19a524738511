/- The document's answer for flow. -/
import Derived.Test.YtjfhapfdahdniaaGX
set_option linter.unusedVariables false
set_option linter.unusedSimpArgs false
set_option linter.unnecessarySimpa false
set_option maxRecDepth 100000
namespace Go.Proofs.Ytjfhapfdahdniaa.M
open Go.Abs Go.RowKit

theorem asc_ext : ∀ (A B : List Nat), A.Pairwise (· < ·) → B.Pairwise (· < ·) → (∀ x, x ∈ A ↔ x ∈ B) → A = B
  | [], [], _, _, _ => rfl
  | [], b :: B, _, _, h => by have := (h b).2 List.mem_cons_self; cases this
  | a :: A, [], _, _, h => by have := (h a).1 List.mem_cons_self; cases this
  | a :: A, b :: B, hA, hB, h => by
    rw [List.pairwise_cons] at hA hB
    have e : a = b := by
      rcases List.mem_cons.1 ((h a).1 List.mem_cons_self) with h1 | h1
      · exact h1
      · rcases List.mem_cons.1 ((h b).2 List.mem_cons_self) with h2 | h2
        · exact h2.symm
        · have := hB.1 a h1; have := hA.1 b h2; omega
    subst e
    rw [asc_ext A B hA.2 hB.2 (fun x => by
      constructor
      · intro hx
        have := hA.1 x hx
        rcases List.mem_cons.1 ((h x).1 (List.mem_cons_of_mem _ hx)) with h1 | h1
        · omega
        · exact h1
      · intro hx
        have := hB.1 x hx
        rcases List.mem_cons.1 ((h x).2 (List.mem_cons_of_mem _ hx)) with h1 | h1
        · omega
        · exact h1)]
section
variable {xs : List Ins} {M M0 M1 : Mem} {a : Option (Nat × Nat)} {l : Nat} {c : Cap} {s : Nat}
def insF (xs : List Ins) (n i : Nat) : List Nat := (List.range i).filter (fun b => (stA xs n).contains b)
theorem insF_self (n : Nat) : insF xs n n = (stA xs n).reverse := by
  apply asc_ext
  · exact List.Pairwise.filter _ List.pairwise_lt_range
  · exact List.pairwise_reverse.2 (stk_sorted n)
  · intro x
    unfold insF
    rw [List.mem_filter, List.mem_range, List.mem_reverse]
    constructor
    · intro h; simpa using h.2
    · intro h; exact ⟨stk_lt h, by simpa using h⟩
theorem insF_succ (n i : Nat) : insF xs n (i + 1) = insF xs n i ++ (if (stA xs n).contains i then [i] else []) := by
  unfold insF
  rw [List.range_succ, List.filter_append]
  congr 1
  cases h : (stA xs n).contains i with
  | true => simp only [List.filter_cons, h]; rfl
  | false => simp only [List.filter_cons, h]; rfl
abbrev eaA (xs : List Ins) (b : Nat) : Int := ea (RA xs) (EA xs) xs.length b
theorem ea_of_clo {b e : Nat} (h : Clo (RA xs) (EA xs) b e) (hR : RA xs b = true) (he : e < xs.length) : eaA xs b = (e : Int) := by
  have hn : b ∉ stA xs xs.length := fun hm => by
    have := (h.mem.1 hm).2
    omega
  obtain ⟨e', h1, h2, h3⟩ := (ea_mem hR (RA_lt hR)).2 hn
  rw [h.inj h2]; exact h3
theorem ins_iff {i n : Nat} (hi : i < n) (hn : n ≤ xs.length) (hR : RA xs i = true) : i ∈ stA xs n ↔ (eaA xs i < 0 ∨ (n : Int) ≤ eaA xs i) := by
  obtain ⟨h1, h2⟩ := ea_mem (E := EA xs) hR (RA_lt hR)
  by_cases hm : i ∈ stA xs xs.length
  · have e : eaA xs i = -1 := h1 hm
    exact ⟨fun _ => .inl (by rw [e]; omega), fun _ => stk_back' hi hn hm⟩
  · obtain ⟨e, k1, k2, k3⟩ := h2 hm
    have k3 : eaA xs i = (e : Int) := k3
    rw [k2.mem, k3]
    constructor
    · intro h; exact .inr (by omega)
    · intro h
      rcases h with h | h
      · omega
      · exact ⟨hi, by omega⟩
theorem Closes_C (hx : Sl M 5 encI a l c xs) (hl40 : l < 2 ^ 40) {b : Nat} (hb : RA xs b = true) : C 32 [.sl a l c, .int .i64 (b : Int)] M = some (.int .i64 (eaA xs b), M) := by
  have hl := hx.2
  have hbl := RA_lt hb
  have op33 : ∀ i, ((opA xs i : Int) == 33) = RA xs i := fun i => opI 33
  have op34 : ∀ i, ((opA xs i : Int) == 34) = EA xs i := fun i => opI 34
  have rd : ∀ i, i < l → ∃ p, slPtr a c = some p ∧ M.ldI .u8 p.1 (p.2 + i * 5) = some (opA xs i : Int) := fun i hi => by
    obtain ⟨p, p1, p2, -⟩ := in_ld hx hi
    exact ⟨p, p1, p2⟩
  have loop : ∀ (d i o : Nat), i + d = l → b < i → (∃ u, stA xs i = u ++ b :: stA xs b ∧ o = u.length + 1) → p32_1 C prog.meth a l c (o : Int) (i : Int) M = some (.int .i64 (eaA xs b), M) := by
    intro d
    induction d with
    | zero =>
      intro i o hi hbi ⟨u, hu, ho⟩
      have hF := p32_1_eq C prog.meth a l c (o : Int) (i : Int) M
      have q1 : ¬ ((i : Int) < (l : Int)) := by omega
      simp only [q1, decide_false, cond_false] at hF
      obtain rfl : i = xs.length := by omega
      have : eaA xs b = -1 := (ea_mem hb hbl).1 (by rw [show stk (RA xs) (EA xs) xs.length = u ++ b :: stA xs b from hu]; simp)
      rw [this]; exact hF
    | succ d ih =>
      intro i o hi hbi ⟨u, hu, ho⟩
      have hF := p32_1_eq C prog.meth a l c (o : Int) (i : Int) M
      have hil : i < l := by omega
      obtain ⟨p, p1, p2⟩ := rd i hil
      have q1 : ((i : Int) < (l : Int)) := by omega
      have k1 : (0 : Int) ≤ (i : Int) := by omega
      have k2 : Nat.blt i l = true := Mem.blt_iff.2 hil
      have hsl := stA_len (xs := xs) i
      have hol : o ≤ i := by
        rw [hu] at hsl; simp at hsl; omega
      have w1 : IntKind.wrap .i64 ((i : Int) + 1) = ((i + 1 : Nat) : Int) := by rw [wrap_i64 (by omega) (by omega)]; rfl
      have w2 : IntKind.wrap .i64 ((o : Int) + 1) = ((o + 1 : Nat) : Int) := by rw [wrap_i64 (by omega) (by omega)]; rfl
      have w3 : IntKind.wrap .i64 ((o : Int) - 1) = ((o - 1 : Nat) : Int) := by rw [wrap_i64 (by omega) (by omega)]; omega
      simp only [q1, k1, k2, decide_true, cond_true, Int.toNat_natCast, p1, Option.bind_some, Nat.add_zero, p2, op33, w2] at hF
      cases hR : RA xs i with
      | true =>
        rw [hR, cond_true] at hF
        have hG := p32_2_eq C prog.meth a l c ((o + 1 : Nat) : Int) (i : Int) M
        have hE : EA xs i = false := by
          unfold EA; unfold RA at hR
          rw [Nat.eq_of_beq_eq_true hR]; rfl
        simp only [k1, k2, decide_true, cond_true, Int.toNat_natCast, p1, Option.bind_some, Nat.add_zero, p2, op34, hE, cond_false, w1] at hG
        exact hF.trans (hG.trans (ih (i + 1) (o + 1) (by omega) (by omega) ⟨i :: u, by show stk _ _ (i + 1) = _; rw [stk, if_pos hR]; show i :: stA xs i = _; rw [hu]; rfl, by simp [ho]⟩))
      | false =>
        rw [hR, cond_false] at hF
        have hG := p32_2_eq C prog.meth a l c (o : Int) (i : Int) M
        cases hE : EA xs i with
        | false =>
          simp only [k1, k2, decide_true, cond_true, Int.toNat_natCast, p1, Option.bind_some, Nat.add_zero, p2, op34, hE, cond_false, w1] at hG
          exact hF.trans (hG.trans (ih (i + 1) o (by omega) (by omega) ⟨u, by show stk _ _ (i + 1) = _; rw [stk, if_neg (by rw [hR]; simp), if_neg (by rw [hE]; simp)]; exact hu, ho⟩))
        | true =>
          simp only [k1, k2, decide_true, cond_true, Int.toNat_natCast, p1, Option.bind_some, Nat.add_zero, p2, op34, hE, w1, w3] at hG
          cases u with
          | nil =>
            have o1 : o = 1 := by simpa using ho
            subst o1
            have hc : Clo (RA xs) (EA xs) b i := clo_of_end hR hE hu
            rw [ea_of_clo hc hb (by omega)]
            exact hF.trans hG
          | cons x u =>
            have z : (((o - 1 : Nat) : Int) == 0) = false := by simp at ho; simp; omega
            rw [z, cond_false] at hG
            exact hF.trans (hG.trans (ih (i + 1) (o - 1) (by omega) (by omega) ⟨u, by show stk _ _ (i + 1) = _; rw [stk, if_neg (by rw [hR]; simp), if_pos hE]; show (stA xs i).tail = _; rw [hu]; rfl, by simp at ho; omega⟩))
  have hE := p32_0_eq C prog.meth a l c (b : Int) M
  have hF := p32_1_eq C prog.meth a l c 0 (b : Int) M
  have hEb : EA xs b = false := by
    unfold EA; unfold RA at hb
    rw [Nat.eq_of_beq_eq_true hb]; rfl
  have hG := p32_2_eq C prog.meth a l c 1 (b : Int) M
  obtain ⟨p, p1, p2⟩ := rd b (by omega)
  have q1 : ((b : Int) < (l : Int)) := by omega
  have k1 : (0 : Int) ≤ (b : Int) := by omega
  have k2 : Nat.blt b l = true := Mem.blt_iff.2 (by omega)
  have w1 : IntKind.wrap .i64 ((b : Int) + 1) = ((b + 1 : Nat) : Int) := by rw [wrap_i64 (by omega) (by omega)]; rfl
  have w2 : IntKind.wrap .i64 (0 + 1) = 1 := by decide
  simp only [q1, k1, k2, decide_true, cond_true, Int.toNat_natCast, p1, Option.bind_some, Nat.add_zero, p2, op33, hb, w2] at hF
  simp only [k1, k2, decide_true, cond_true, Int.toNat_natCast, p1, Option.bind_some, Nat.add_zero, p2, op34, hEb, cond_false, w1] at hG
  have := loop (l - (b + 1)) (b + 1) 1 (by omega) (by omega) ⟨[], by show stk _ _ (b + 1) = _; rw [stk, if_pos hb]; rfl, rfl⟩
  exact c32 (hE.trans (hF.trans (hG.trans this)))
theorem Inside_C (hx : Sl M 5 encI a l c xs) (hl40 : l < 2 ^ 40) {n : Nat} (hn : n ≤ l) : ∃ (M' : Mem) (v : SlV), C 25 [.sl a l c, .int .i64 (n : Int)] M = some (.sl v.1 v.2.1 v.2.2, M') ∧ M.Upto M' ∧ M'.ints .i64 v.1 v.2.1 v.2.2 = some ((stA xs n).reverse.map (fun b : Nat => (b : Int))) := by
  have hl := hx.2
  have hE := p25_0_eq C prog.meth a l c (n : Int) M
  have op33 : ∀ i, ((opA xs i : Int) == 33) = RA xs i := fun i => opI 33
  have loop : ∀ (d i : Nat) (M1 : Mem) (v : SlV), i + d = n → M.Upto M1 → (∀ o ∈ fpS v, M.n ≤ o) → OwnK .i64 M1 v ((insF xs n i).map (fun b : Nat => (b : Int))) → (v.2.1 = 0 → v.2.2 = .known 0) → v.2.1 ≤ i → ∃ (M' : Mem) (v' : SlV), p25_1 C prog.meth a l c (n : Int) v.1 v.2.1 v.2.2 (i : Int) M1 = some (.sl v'.1 v'.2.1 v'.2.2, M') ∧ M.Upto M' ∧ OwnK .i64 M' v' ((insF xs n n).map (fun b : Nat => (b : Int))) := by
    intro d
    induction d with
    | zero =>
      intro i M1 v hi hu hfp ho hz hv
      have hF := p25_1_eq C prog.meth a l c (n : Int) v.1 v.2.1 v.2.2 (i : Int) M1
      have q1 : ¬ ((i : Int) < (n : Int)) := by omega
      simp only [q1, decide_false, cond_false] at hF
      obtain rfl : i = n := by omega
      exact ⟨M1, v, hF, hu, ho⟩
    | succ d ih =>
      intro i M1 v hi hu hfp ho hz hv
      have hF := p25_1_eq C prog.meth a l c (n : Int) v.1 v.2.1 v.2.2 (i : Int) M1
      have hx1 := hx.upto encI5 (by omega) hu
      obtain ⟨p, p1, p2, -⟩ := in_ld hx1 (i := i) (by omega)
      have q1 : ((i : Int) < (n : Int)) := by omega
      have k1 : (0 : Int) ≤ (i : Int) := by omega
      have k2 : Nat.blt i l = true := Mem.blt_iff.2 (by omega)
      have w1 : IntKind.wrap .i64 ((i : Int) + 1) = ((i + 1 : Nat) : Int) := by rw [wrap_i64 (by omega) (by omega)]; rfl
      simp only [q1, k1, k2, decide_true, cond_true, Int.toNat_natCast, p1, Option.bind_some, Nat.add_zero, p2, op33, w1] at hF
      have skip : (stA xs n).contains i = false → p25_1 C prog.meth a l c (n : Int) v.1 v.2.1 v.2.2 (i : Int) M1 = p25_1 C prog.meth a l c (n : Int) v.1 v.2.1 v.2.2 ((i + 1 : Nat) : Int) M1 → ∃ (M' : Mem) (v' : SlV), p25_1 C prog.meth a l c (n : Int) v.1 v.2.1 v.2.2 (i : Int) M1 = some (.sl v'.1 v'.2.1 v'.2.2, M') ∧ M.Upto M' ∧ OwnK .i64 M' v' ((insF xs n n).map (fun b : Nat => (b : Int))) := fun hc hF => by
        obtain ⟨M', v', t1, t2, t3⟩ := ih (i + 1) M1 v (by omega) hu hfp (by rw [insF_succ, hc]; simpa using ho) hz (by omega)
        exact ⟨M', v', hF.trans t1, t2, t3⟩
      cases hR : RA xs i with
      | false =>
        rw [hR, cond_false] at hF
        exact skip (by
          cases hc : (stA xs n).contains i with
          | false => rfl
          | true =>
            have := stk_R (List.contains_iff_mem.1 hc)
            rw [hR] at this; cases this) hF
      | true =>
        rw [hR, cond_true, Closes_C hx1 hl40 hR, Option.bind_some] at hF
        simp only [int?_int, Option.bind_some] at hF
        obtain ⟨M2, r1, r2, r3, r4⟩ := ho.push (bytes := 8) (i : Int) hz (by omega)
        have hu2 : M.Upto M2 := up_but hu r4 hfp
        have hiff := ins_iff (n := n) (by omega) (by omega) hR
        have hf : fpS ((some (M1.n + 1, 0), v.2.1 + 1, .unk 0) : SlV) = [M1.n + 1] := fpS_own rfl (by simp)
        have take : (stA xs n).contains i = true → p25_1 C prog.meth a l c (n : Int) v.1 v.2.1 v.2.2 (i : Int) M1 = p25_1 C prog.meth a l c (n : Int) (some (M1.n + 1, 0)) (v.2.1 + 1) (.unk 0) ((i + 1 : Nat) : Int) M2 → ∃ (M' : Mem) (v' : SlV), p25_1 C prog.meth a l c (n : Int) v.1 v.2.1 v.2.2 (i : Int) M1 = some (.sl v'.1 v'.2.1 v'.2.2, M') ∧ M.Upto M' ∧ OwnK .i64 M' v' ((insF xs n n).map (fun b : Nat => (b : Int))) := fun hc hF => by
          obtain ⟨M', v', t1, t2, t3⟩ := ih (i + 1) M2 (some (M1.n + 1, 0), v.2.1 + 1, .unk 0) (by omega) hu2 (by rw [hf]; intro o ho; simp at ho; have := hu.1; omega) (by rw [insF_succ, hc, List.map_append]; exact r2) (fun h => by simp at h) (by simp; omega)
          exact ⟨M', v', hF.trans t1, t2, t3⟩
        by_cases h1 : eaA xs i < 0
        · simp only [h1, decide_true, cond_true, r1] at hF
          exact take (List.contains_iff_mem.2 (hiff.2 (.inl h1))) hF
        · simp only [h1, decide_false, cond_false] at hF
          by_cases h2 : (n : Int) ≤ eaA xs i
          · simp only [h2, decide_true, cond_true, r1] at hF
            exact take (List.contains_iff_mem.2 (hiff.2 (.inr h2))) hF
          · simp only [h2, decide_false, cond_false] at hF
            exact skip (by
              cases hc : (stA xs n).contains i with
              | false => rfl
              | true =>
                rcases hiff.1 (List.contains_iff_mem.1 hc) with h | h
                · exact absurd h h1
                · exact absurd h h2) hF
  obtain ⟨M', v, t1, t2, t3⟩ := loop n 0 M (none, 0, .known 0) (by omega) (Mem.Upto.refl _) (by simp [fpS]) (OwnK.nil _ _) (fun _ => rfl) (Nat.le_refl _)
  rw [insF_self] at t3
  exact ⟨M', v, c25 (hE.trans t1), t2, t3.ints⟩
theorem has_C {v : SlV} {ys : List Int} (h : M.ints .i64 v.1 v.2.1 v.2.2 = some ys) (hl : v.2.1 < 2 ^ 40) (y : Int) : C 43 [.sl v.1 v.2.1 v.2.2, .int .i64 y] M = some (.bool (ys.contains y), M) := by
  have hE := p43_0_eq C prog.meth v.1 v.2.1 v.2.2 y M
  obtain ⟨h1, h2⟩ := ints_iff.1 h
  have loop : ∀ (d i : Nat), i + d = v.2.1 → p43_1 C prog.meth v.1 v.2.1 v.2.2 y (i : Int) M = some (.bool ((ys.drop i).contains y), M) := by
    intro d
    induction d with
    | zero =>
      intro i hi
      have hF := p43_1_eq C prog.meth v.1 v.2.1 v.2.2 y (i : Int) M
      have q1 : ¬ ((i : Int) < (v.2.1 : Int)) := by omega
      simp only [q1, decide_false, cond_false] at hF
      rw [hF, List.drop_eq_nil_of_le (by omega)]; rfl
    | succ d ih =>
      intro i hi
      have hF := p43_1_eq C prog.meth v.1 v.2.1 v.2.2 y (i : Int) M
      have q1 : ((i : Int) < (v.2.1 : Int)) := by omega
      have k1 : (0 : Int) ≤ (i : Int) := by omega
      have k2 : Nat.blt i v.2.1 = true := Mem.blt_iff.2 (by omega)
      have w1 : IntKind.wrap .i64 ((i : Int) + 1) = ((i + 1 : Nat) : Int) := by rw [wrap_i64 (by omega) (by omega)]; rfl
      obtain ⟨p, p1, p2⟩ := h2 i (by omega)
      rw [List.getElem?_eq_getElem (by omega)] at p2
      simp only [q1, k1, k2, decide_true, cond_true, Int.toNat_natCast, p1, Option.bind_some, Nat.mul_one, p2, w1] at hF
      rw [List.drop_eq_getElem_cons (show i < ys.length by omega), List.contains_cons]
      cases hc : (ys[i]'(by omega) == y) with
      | true =>
        rw [hc, cond_true] at hF
        have : (y == ys[i]'(by omega)) = true := by simpa using (by simpa using hc : ys[i]'(by omega) = y).symm
        rw [this]; exact hF
      | false =>
        rw [hc, cond_false] at hF
        have : (y == ys[i]'(by omega)) = false := by
          simp at hc ⊢; exact fun e => hc e.symm
        rw [this, Bool.false_or]
        exact hF.trans (ih (i + 1) (by omega))
  have := loop v.2.1 0 (by omega)
  exact c43 (hE.trans this)
theorem opens_C (hx : Sl M 5 encI a l c xs) (hl40 : l < 2 ^ 40) {n : Nat} (hn : n < l) (hR : RA xs n = false) (hEE : EA xs n = true) : C 42 [.sl a l c, .int .i64 (n : Int)] M = some (.bool (decide (stA xs n ≠ [])), M) := by
  have hl := hx.2
  have hE := p42_0_eq C prog.meth a l c (n : Int) M
  have op33 : ∀ i, ((opA xs i : Int) == 33) = RA xs i := fun i => opI 33
  have loop : ∀ (d i : Nat), i + d = n → (∀ b, b < i → RA xs b = true → eaA xs b ≠ (n : Int)) → p42_1 C prog.meth a l c (n : Int) (i : Int) M = some (.bool (decide (stA xs n ≠ [])), M) := by
    intro d
    induction d with
    | zero =>
      intro i hi hno
      have hF := p42_1_eq C prog.meth a l c (n : Int) (i : Int) M
      have q1 : ¬ ((i : Int) < (n : Int)) := by omega
      simp only [q1, decide_false, cond_false] at hF
      have e : stA xs n = [] := by
        cases hs : stA xs n with
        | nil => rfl
        | cons b r =>
          obtain ⟨b1, b2, b3⟩ := stk_cons n hs
          exact absurd (ea_of_clo (clo_of_end hR hEE hs) b2 (by omega)) (hno b (by omega) b2)
      rw [hF, e]; rfl
    | succ d ih =>
      intro i hi hno
      have hF := p42_1_eq C prog.meth a l c (n : Int) (i : Int) M
      obtain ⟨p, p1, p2, -⟩ := in_ld hx (i := i) (by omega)
      have q1 : ((i : Int) < (n : Int)) := by omega
      have k1 : (0 : Int) ≤ (i : Int) := by omega
      have k2 : Nat.blt i l = true := Mem.blt_iff.2 (by omega)
      have w1 : IntKind.wrap .i64 ((i : Int) + 1) = ((i + 1 : Nat) : Int) := by rw [wrap_i64 (by omega) (by omega)]; rfl
      simp only [q1, k1, k2, decide_true, cond_true, Int.toNat_natCast, p1, Option.bind_some, Nat.add_zero, p2, op33, w1] at hF
      cases hRi : RA xs i with
      | false =>
        rw [hRi, cond_false] at hF
        exact hF.trans (ih (i + 1) (by omega) (fun b hb hbR => by
          by_cases h : b = i
          · subst h; rw [hRi] at hbR; cases hbR
          · exact hno b (by omega) hbR))
      | true =>
        rw [hRi, cond_true, Closes_C hx hl40 hRi, Option.bind_some] at hF
        simp only [int?_int, Option.bind_some] at hF
        by_cases h1 : eaA xs i = (n : Int)
        · rw [h1, beq_self_eq_true, cond_true] at hF
          have : stA xs n ≠ [] := by
            obtain ⟨g1, g2⟩ := ea_mem (E := EA xs) hRi (RA_lt hRi)
            by_cases hm : i ∈ stA xs xs.length
            · have : eaA xs i = -1 := g1 hm
              omega
            · obtain ⟨e, k1, k2, k3⟩ := g2 hm
              have k3 : eaA xs i = (e : Int) := k3
              obtain rfl : e = n := by omega
              rw [show stA xs e = i :: stA xs i from k2.2.2.2]; simp
          rw [hF, decide_eq_true this]
        · have hne : (eaA xs i == (n : Int)) = false := by simpa using h1
          rw [hne, cond_false] at hF
          exact hF.trans (ih (i + 1) (by omega) (fun b hb hbR => by
            by_cases h : b = i
            · subst h; exact h1
            · exact hno b (by omega) hbR))
  exact c42 (hE.trans (loop n 0 (by omega) (fun b hb => by omega)))
theorem Rjumps_C (x : Ins) (M : Mem) : ∃ M', C 24 [.agg [.int .u8 (x.1 : Int), .int .u8 x.2.1, .int .u8 x.2.2.1, .int .i16 x.2.2.2.1, .int .i32 x.2.2.2.2]] M = some (.bool (Nat.beq x.1 22 || (Nat.ble 23 x.1 && Nat.ble x.1 32)), M') ∧ M.Upto M' := by
  have hE := p24_0_eq C prog.meth (x.1 : Int) x.2.1 x.2.2.1 x.2.2.2.1 x.2.2.2.2 M
  have hb := box5 M x.1 x.2.1 x.2.2.1 x.2.2.2.1 x.2.2.2.2
  have hu := Mem.Upto.alloc M ⟨[.int .u8 (x.1 : Int), .int .u8 x.2.1, .int .u8 x.2.2.1, .int .i16 x.2.2.2.1, .int .i32 x.2.2.2.2], .fixed⟩
  generalize M.alloc ⟨[.int .u8 (x.1 : Int), .int .u8 x.2.1, .int .u8 x.2.2.1, .int .i16 x.2.2.2.1, .int .i32 x.2.2.2.2], .fixed⟩ = M1 at hE hb hu
  refine ⟨M1, c24 (hE.trans ?_), hu⟩
  simp only [hb, Option.bind_some]
  have e1 : ((x.1 : Int) == 22) = Nat.beq x.1 22 := by
    by_cases h : x.1 = 22
    · rw [h]; rfl
    · rw [beq_false h]; simp; omega
  have e2 : decide ((x.1 : Int) ≥ 23) = Nat.ble 23 x.1 := by
    by_cases h : 23 ≤ x.1
    · rw [ble_iff.2 h]; simp; omega
    · rw [ble_false h]; simp; omega
  have e3 : decide ((x.1 : Int) ≤ 32) = Nat.ble x.1 32 := by
    by_cases h : x.1 ≤ 32
    · rw [ble_iff.2 h]; simp; omega
    · rw [ble_false h]; simp; omega
  rw [e1, e2, e3]
  cases Nat.beq x.1 22 <;> cases Nat.ble 23 x.1 <;> rfl
end
end Go.Proofs.Ytjfhapfdahdniaa.M
