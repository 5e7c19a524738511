/- slices.SortStableFunc: symMerge, blocks, all. -/
import Derived.Test.YtlglggcheffoeaaTM
set_option linter.unusedVariables false
set_option linter.unusedSimpArgs false
set_option linter.unnecessarySimpa false
set_option maxRecDepth 100000
namespace Go.Proofs.Ytlglggcheffoeaa.M
open Go.Abs Go.RowKit

theorem mem_take' {A : List Pr} {k : Nat} {x : Pr} (h : x ∈ A.take k) : ∃ i, ∃ h : i < A.length, i < k ∧ A[i]'h = x := by
  obtain ⟨i, hi, e⟩ := List.mem_iff_getElem.1 h
  simp only [List.length_take] at hi
  exact ⟨i, by omega, by omega, by rw [← e, List.getElem_take]⟩
theorem mem_drop' {A : List Pr} {k : Nat} {x : Pr} (h : x ∈ A.drop k) : ∃ i, ∃ h : i < A.length, k ≤ i ∧ A[i]'h = x := by
  obtain ⟨i, hi, e⟩ := List.mem_iff_getElem.1 h
  simp only [List.length_drop] at hi
  exact ⟨k + i, by omega, by omega, by rw [← e, List.getElem_drop]⟩
theorem Srt.take {A : List Pr} (h : Srt A) (k : Nat) : Srt (A.take k) := List.Pairwise.sublist (List.take_sublist k A) h
theorem Srt.drop {A : List Pr} (h : Srt A) (k : Nat) : Srt (A.drop k) := List.Pairwise.sublist (List.drop_sublist k A) h
section
variable {M M' : Mem} {o l : Nat}
theorem gen_search {L : List Pr} {a m b mid n p s0 r0 : Nat} (hl60 : l < 2 ^ 40) (hl : l = L.length) (hp : p < 2 ^ 50) (hrange : ∀ c : Nat, s0 ≤ c → c < r0 → c ≤ p ∧ p - c < l ∧ c < l) (hr0 : r0 ≤ l) (mono : ∀ c c' : Nat, s0 ≤ c → c ≤ c' → c' < r0 → (at_ L c).1 ≤ (at_ L c').1 ∧ (at_ L (p - c')).1 ≤ (at_ L (p - c)).1) :
    ∀ (D s r : Nat) (M : Mem), r - s ≤ D → s0 ≤ s → s ≤ r → r ≤ r0 → Dat o M L → (∀ c : Nat, s0 ≤ c → c < s → (at_ L c).1 ≤ (at_ L (p - c)).1) → (∀ c : Nat, r ≤ c → c < r0 → (at_ L (p - c)).1 < (at_ L c).1) →
    ∃ (M' : Mem) (s' : Nat), p24_6 C prog.meth (some (o, 0)) l (.unk 0) (a : Int) (m : Int) (b : Int) (some 19) [] [] (mid : Int) (n : Int) (s : Int) (r : Int) (p : Int) M = p24_6 C prog.meth (some (o, 0)) l (.unk 0) (a : Int) (m : Int) (b : Int) (some 19) [] [] (mid : Int) (n : Int) (s' : Int) (s' : Int) (p : Int) M' ∧ s0 ≤ s' ∧ s' ≤ r0 ∧ (∀ c : Nat, s0 ≤ c → c < s' → (at_ L c).1 ≤ (at_ L (p - c)).1) ∧ (∀ c : Nat, s' ≤ c → c < r0 → (at_ L (p - c)).1 < (at_ L c).1) ∧ M.Upto M' := by
  intro D
  induction D with
  | zero =>
    intro s r M hD h0 hsr hr hd h1 h2
    obtain rfl : s = r := by omega
    exact ⟨M, s, rfl, h0, hr, h1, h2, Mem.Upto.refl _⟩
  | succ D ih =>
    intro s r M hD h0 hsr hr hd h1 h2
    by_cases q0 : s = r
    · exact ih s r M (by omega) h0 hsr hr hd h1 h2
    have hE := p24_6_eq C prog.meth (some (o, 0)) l (.unk 0) (a : Int) (m : Int) (b : Int) (some 19) [] [] (mid : Int) (n : Int) (s : Int) (r : Int) (p : Int) M
    have q : ((s : Int) < (r : Int)) := by omega
    obtain ⟨c, hc⟩ : ∃ c, (s + r) / 2 = c := ⟨_, rfl⟩
    have w1 := half (m := s) (n := r) (by omega)
    rw [hc] at w1
    obtain ⟨b1, b2, b3⟩ := hrange c (by omega) (by omega)
    have w2 : IntKind.wrap .i64 ((p : Int) - (c : Int)) = ((p - c : Nat) : Int) := i64sub (by omega) (by omega)
    have c0 : (0 : Int) ≤ ((p - c : Nat) : Int) := by omega
    have c1 : (0 : Int) ≤ (c : Int) := by omega
    have c2 : Nat.blt (p - c) l = true := Mem.blt_iff.2 b2
    have c3 : Nat.blt c l = true := Mem.blt_iff.2 b3
    have hsp : slPtr (some (o, 0)) (.unk 0) = some (o, 0) := rfl
    have r1 := hd.at (i := p - c) (by omega)
    have r2 := hd.at (i := c) (by omega)
    obtain ⟨M1, r', k1, k2, k3⟩ := cmp_C (at_ L (p - c)) (at_ L c) M
    rw [w1] at hE
    simp only [Option.bind_some, List.getElem?_cons_zero, List.getElem?_cons_succ, int?_int, AVal.bool?, AVal.ptr?, AVal.sl?, AVal.tup?, AVal.agg?, AVal.ifc?, AVal.fn?, AVal.str?, List.head?_cons, List.tail_cons, List.isEmpty_nil, cond_true, cond_false, Option.isNone_some, Option.isNone_none, Bool.not_true, Bool.not_false, decide_true, decide_false, beq_self_eq_true, bne_self_eq_false, Int.reduceBEq, Int.reduceBNe, Int.cast_ofNat_Int, q, w2, c0, c1, c2, c3, Int.toNat_natCast, hsp, Nat.zero_add, r1.1, r1.2, r2.1, r2.2, List.nil_append, List.append_nil] at hE
    rw [k1, Option.bind_some] at hE
    simp only [Option.bind_some, List.getElem?_cons_zero, List.getElem?_cons_succ, int?_int, AVal.bool?, AVal.ptr?, AVal.sl?, AVal.tup?, AVal.agg?, AVal.ifc?, AVal.fn?, AVal.str?, List.head?_cons, List.tail_cons, List.isEmpty_nil, cond_true, cond_false, Option.isNone_some, Option.isNone_none, Bool.not_true, Bool.not_false, decide_true, decide_false, beq_self_eq_true, bne_self_eq_false, Int.reduceBEq, Int.reduceBNe, Int.cast_ofNat_Int, k3] at hE
    have hd1 := hd.upto k2
    by_cases h3 : (at_ L (p - c)).1 < (at_ L c).1
    · simp only [h3, decide_true, Bool.not_true, cond_false] at hE
      obtain ⟨M', s', t1, t2, t3, t4, t5, t6⟩ := ih s c M1 (by omega) h0 (by omega) (by omega) hd1 h1 (fun c' h4 h5 => by
        have := mono c c' (by omega) h4 h5; omega)
      exact ⟨M', s', hE.trans t1, t2, t3, t4, t5, k2.trans t6⟩
    · have w3 : IntKind.wrap .i64 ((c : Int) + 1) = ((c + 1 : Nat) : Int) := by rw [wrap_i64 (by omega) (by omega)]; omega
      simp only [h3, decide_false, Bool.not_false, cond_true, w3] at hE
      obtain ⟨M', s', t1, t2, t3, t4, t5, t6⟩ := ih (c + 1) r M1 (by omega) (by omega) (by omega) hr hd1 (fun c' h4 h5 => by
        have := mono c' c (by omega) (by omega) (by omega); omega) h2
      exact ⟨M', s', hE.trans t1, t2, t3, t4, t5, k2.trans t6⟩
set_option maxHeartbeats 4000000 in
theorem SymM_C (hl60 : l < 2 ^ 40) : ∀ (N : Nat) (P A B Q : List Pr) (M : Mem) (a m b : Nat), A.length + B.length ≤ N → 0 < A.length → 0 < B.length → Srt A → Srt B → a = P.length → m = a + A.length → b = m + B.length → l = (P ++ (A ++ B) ++ Q).length → Dat o M (P ++ (A ++ B) ++ Q) →
    ∃ M' S, C 24 [slD o l, .int .i64 (a : Int), .int .i64 (m : Int), .int .i64 (b : Int), cmpF] M = some (.tup [], M') ∧ Dat o M' (P ++ S ++ Q) ∧ S.length = A.length + B.length ∧ Srt S ∧ St (A ++ B) S ∧ Mem.But (· = o) M M' := by
  intro N
  induction N with
  | zero => intro P A B Q M a m b hN hA; omega
  | succ N ih =>
    intro P A B Q M a m b hN hA hB sA sB ha hm hb hl hd
    have hE := p24_0_eq C prog.meth (some (o, 0)) l (.unk 0) (a : Int) (m : Int) (b : Int) (some 19) [] [] M
    have hll : l = P.length + A.length + B.length + Q.length := by rw [hl]; simp; omega
    have w1 : IntKind.wrap .i64 ((m : Int) - (a : Int)) = ((A.length : Nat) : Int) := by rw [i64sub (by omega) (by omega)]; omega
    have w2 : IntKind.wrap .i64 ((b : Int) - (m : Int)) = ((B.length : Nat) : Int) := by rw [i64sub (by omega) (by omega)]; omega
    rw [w1, w2, half (by omega)] at hE
    by_cases h1 : A.length = 1
    · obtain ⟨x, rfl⟩ : ∃ x, A = [x] := List.length_eq_one_iff.1 h1
      have e1 : ((([x] : List Pr).length : Int) == 1) = true := by simp
      simp only [e1, cond_true] at hE
      have hE1 := p24_1_eq C prog.meth (some (o, 0)) l (.unk 0) (a : Int) (m : Int) (b : Int) (some 19) [] [] M
      simp only [List.length_singleton] at hm hll hN
      obtain ⟨M1, k, t1, t2, t3, t4, t5⟩ := one_search (o := o) hl60 hl sB B.length 0 B.length M (by omega) (Nat.zero_le _) (Nat.le_refl _) hd (fun t h ht => by omega) (fun t h ht => by omega)
      rw [show P.length + 1 + 0 = m by omega, show m + B.length = b by omega, ← ha] at t1
      have eB : B.take k ++ B.drop k = B := List.take_append_drop _ _
      have lB : (B.take k).length = k := by simp; omega
      obtain ⟨M2, r1, r2, r3⟩ := one_move (P := P) (B2 := B.drop k) (Q := Q) (x := x) (i := m + k) hl60 k [] (B.take k) M1 lB (by simp; omega) (by rw [eB, hll]; simp; omega) (by rw [eB]; simpa using hd.upto t5)
      rw [show P.length + ([] : List Pr).length = a by simp [ha]] at r1
      have h5 : ∀ y ∈ B.take k, y.1 < x.1 := fun y hy => by
        obtain ⟨i, hi, hik, rfl⟩ := mem_take' hy
        exact t3 i hi hik
      have h6 : ∀ y ∈ B.drop k, x.1 ≤ y.1 := fun y hy => by
        obtain ⟨i, hi, hik, rfl⟩ := mem_drop' hy
        exact t4 i hi hik
      have r2 : Dat o M2 (P ++ (B.take k ++ x :: B.drop k) ++ Q) := by simpa using r2
      refine ⟨M2, B.take k ++ x :: B.drop k, c24 (hE.trans (hE1.trans (t1.trans r1))), r2, by simp; omega, Srt.app.2 ⟨sB.take k, List.pairwise_cons.2 ⟨h6, sB.drop k⟩, fun y hy z hz => ?_⟩, ?_, (t5.but _).trans r3 (fun _ _ h => h)⟩
      · rcases List.mem_cons.1 hz with rfl | hz
        · have := h5 y hy; omega
        · have := h5 y hy; have := h6 z hz; omega
      · have e2 : [x] ++ B = ([x] ++ B.take k) ++ B.drop k := by rw [List.append_assoc, eB]
        have e3 : B.take k ++ x :: B.drop k = (B.take k ++ [x]) ++ B.drop k := by simp
        rw [e2, e3]
        exact (St.swap (fun u hu v hv => by
          obtain rfl : u = x := by simpa using hu
          have := h5 v hv; omega)).app (St.refl _)
    · have e1 : (((A.length : Nat) : Int) == 1) = false := by
        have : ((A.length : Nat) : Int) ≠ 1 := by omega
        simpa using this
      simp only [e1, cond_false] at hE
      by_cases h2 : B.length = 1
      · obtain ⟨y, rfl⟩ : ∃ x, B = [x] := List.length_eq_one_iff.1 h2
        have e2 : ((([y] : List Pr).length : Int) == 1) = true := by simp
        simp only [e2, cond_true] at hE
        have hE2 := p24_2_eq C prog.meth (some (o, 0)) l (.unk 0) (a : Int) (m : Int) (some 19) [] [] M
        simp only [List.length_singleton] at hb hll hN
        obtain ⟨M1, k, t1, t2, t3, t4, t5⟩ := two_search (o := o) hl60 hl sA A.length 0 A.length M (by omega) (Nat.zero_le _) (Nat.le_refl _) hd (fun t h ht => by omega) (fun t h ht => by omega)
        rw [show P.length + 0 = a by omega, show P.length + A.length = m by omega] at t1
        have eA : A.take k ++ A.drop k = A := List.take_append_drop _ _
        have lA : (A.take k).length = k := by simp; omega
        have lA2 : (A.drop k).length = A.length - k := by simp
        obtain ⟨M2, r1, r2, r3⟩ := two_move (P := P) (A1 := A.take k) (Q := Q) (y := y) hl60 (A.length - k) (A.drop k) [] M1 lA2 (by rw [eA, hll]; simp; omega) (by rw [eA]; simpa using hd.upto t5)
        rw [lA, lA2, show P.length + k + (A.length - k) = m by omega] at r1
        have h5 : ∀ x ∈ A.take k, x.1 ≤ y.1 := fun x hx => by
          obtain ⟨i, hi, hik, rfl⟩ := mem_take' hx
          exact t3 i hi hik
        have h6 : ∀ x ∈ A.drop k, y.1 < x.1 := fun x hx => by
          obtain ⟨i, hi, hik, rfl⟩ := mem_drop' hx
          exact t4 i hi hik
        rw [List.append_nil] at r2
        refine ⟨M2, A.take k ++ y :: A.drop k, c24 (hE.trans (hE2.trans (t1.trans r1))), r2, by simp; omega, Srt.app.2 ⟨sA.take k, List.pairwise_cons.2 ⟨fun z hz => by have := h6 z hz; omega, sA.drop k⟩, fun u hu z hz => ?_⟩, ?_, (t5.but _).trans r3 (fun _ _ h => h)⟩
        · rcases List.mem_cons.1 hz with rfl | hz
          · exact h5 u hu
          · have := h5 u hu; have := h6 z hz; omega
        · have e2 : A ++ [y] = A.take k ++ (A.drop k ++ [y]) := by rw [← List.append_assoc, eA]
          have e3 : A.take k ++ y :: A.drop k = A.take k ++ ([y] ++ A.drop k) := by simp
          rw [e2, e3]
          exact (St.refl _).app (St.swap (fun u hu v hv => by
            obtain rfl : v = y := by simpa using hv
            have := h6 u hu; omega))
      · have e2 : (((B.length : Nat) : Int) == 1) = false := by
          have : ((B.length : Nat) : Int) ≠ 1 := by omega
          simpa using this
        simp only [e2, cond_false] at hE
        obtain ⟨mid, hmid⟩ : ∃ mid, (a + b) / 2 = mid := ⟨_, rfl⟩
        rw [hmid] at hE
        have w3 : IntKind.wrap .i64 ((mid : Int) + (m : Int)) = ((mid + m : Nat) : Int) := i64add (by omega)
        obtain ⟨n, hn⟩ : ∃ n, mid + m = n := ⟨_, rfl⟩
        rw [w3, hn] at hE
        have w4 : IntKind.wrap .i64 ((n : Int) - 1) = ((n - 1 : Nat) : Int) := by rw [wrap_i64 (by omega) (by omega)]; omega
        obtain ⟨L, hL⟩ : ∃ L, L = P ++ (A ++ B) ++ Q := ⟨_, rfl⟩
        have hd' := hd
        rw [← hL] at hd'
        have hlL : l = L.length := by rw [hL]; exact hl
        have kA : ∀ i (h : i < A.length), at_ L (a + i) = A[i]'h := fun i h => by
          have e : L = P ++ (A ++ (B ++ Q)) := by rw [hL]; simp
          rw [e, ha]; exact at_app h
        have kB : ∀ i (h : i < B.length), at_ L (m + i) = B[i]'h := fun i h => by
          have e : L = (P ++ A) ++ (B ++ Q) := by rw [hL]; simp
          rw [e, hm, ha, show P.length + A.length + i = (P ++ A).length + i by simp]; exact at_app h
        have mA : ∀ c c', a ≤ c → c ≤ c' → c' < m → (at_ L c).1 ≤ (at_ L c').1 := fun c c' h3 h4 h5 => by
          obtain ⟨i, rfl⟩ : ∃ i, c = a + i := ⟨c - a, by omega⟩
          obtain ⟨j, rfl⟩ : ∃ i, c' = a + i := ⟨c' - a, by omega⟩
          rw [kA i (by omega), kA j (by omega)]
          exact sA.le (by omega) (by omega)
        have mB : ∀ c c', m ≤ c → c ≤ c' → c' < b → (at_ L c).1 ≤ (at_ L c').1 := fun c c' h3 h4 h5 => by
          obtain ⟨i, rfl⟩ : ∃ i, c = m + i := ⟨c - m, by omega⟩
          obtain ⟨j, rfl⟩ : ∃ i, c' = m + i := ⟨c' - m, by omega⟩
          rw [kB i (by omega), kB j (by omega)]
          exact sB.le (by omega) (by omega)
        -- the search, from either start
        have go : ∃ s0 r0 : Nat, a ≤ s0 ∧ s0 ≤ r0 ∧ r0 ≤ m ∧ r0 ≤ mid ∧ ((s0 = a ∧ r0 = m ∧ m ≤ mid) ∨ (s0 = n - b ∧ b ≤ n ∧ r0 = mid ∧ mid < m)) ∧ (∀ c, s0 ≤ c → c < r0 → c ≤ n - 1 ∧ n - 1 - c < b ∧ m ≤ n - 1 - c) ∧ p24_0 C prog.meth (some (o, 0)) l (.unk 0) (a : Int) (m : Int) (b : Int) (some 19) [] [] M = p24_6 C prog.meth (some (o, 0)) l (.unk 0) (a : Int) (m : Int) (b : Int) (some 19) [] [] (mid : Int) (n : Int) (s0 : Int) (r0 : Int) ((n - 1 : Nat) : Int) M := by
          by_cases h3 : ((m : Nat) : Int) > ((mid : Nat) : Int)
          · have w5 : IntKind.wrap .i64 ((n : Int) - (b : Int)) = ((n - b : Nat) : Int) := i64sub (by omega) (by omega)
            have hE3 := p24_3_eq C prog.meth (some (o, 0)) l (.unk 0) (a : Int) (m : Int) (b : Int) (some 19) [] [] (mid : Int) (n : Int) ((n - b : Nat) : Int) (mid : Int) M
            simp only [h3, decide_true, cond_true, w5] at hE
            rw [w4] at hE3
            exact ⟨n - b, mid, by omega, by omega, by omega, by omega, .inr ⟨rfl, by omega, rfl, by omega⟩, fun c h4 h5 => by omega, hE.trans hE3⟩
          · have hE3 := p24_3_eq C prog.meth (some (o, 0)) l (.unk 0) (a : Int) (m : Int) (b : Int) (some 19) [] [] (mid : Int) (n : Int) (a : Int) (m : Int) M
            simp only [h3, decide_false, cond_false] at hE
            rw [w4] at hE3
            exact ⟨a, m, by omega, by omega, by omega, by omega, .inl ⟨rfl, rfl, by omega⟩, fun c h4 h5 => by omega, hE.trans hE3⟩
        obtain ⟨s0, r0, g1, g2, g3, g4, g5, g7, hE3⟩ := go
        obtain ⟨M1, s, t1, t2, t3, t4, t5, t6⟩ := gen_search (o := o) (L := L) (a := a) (m := m) (b := b) (mid := mid) (n := n) (p := n - 1) (s0 := s0) (r0 := r0) hl60 hlL (by omega) (fun c h4 h5 => by have := g7 c h4 h5; omega) (by omega) (fun c c' h4 h5 h6 => ⟨mA c c' (by omega) h5 (by omega), mB _ _ (by have := g7 c' (by omega) h6; omega) (by omega) (by have := g7 c h4 (by omega); omega)⟩) (r0 - s0) s0 r0 M (Nat.le_refl _) (Nat.le_refl _) g2 (Nat.le_refl _) hd' (fun c h4 h5 => by omega) (fun c h4 h5 => by omega)
        obtain ⟨e, he⟩ : ∃ e, n - s = e := ⟨_, rfl⟩
        have he' : m ≤ e ∧ e ≤ b ∧ s ≤ n := by omega
        -- the four parts
        obtain ⟨A1, hA1⟩ : ∃ A1, A1 = A.take (s - a) := ⟨_, rfl⟩
        obtain ⟨A2, hA2⟩ : ∃ A2, A2 = A.drop (s - a) := ⟨_, rfl⟩
        obtain ⟨B1, hB1⟩ : ∃ B1, B1 = B.take (e - m) := ⟨_, rfl⟩
        obtain ⟨B2, hB2⟩ : ∃ B2, B2 = B.drop (e - m) := ⟨_, rfl⟩
        have eA : A = A1 ++ A2 := by rw [hA1, hA2, List.take_append_drop]
        have eB : B = B1 ++ B2 := by rw [hB1, hB2, List.take_append_drop]
        have lA1 : A1.length = s - a := by rw [hA1]; simp; omega
        have lA2 : A2.length = m - s := by rw [hA2]; simp; omega
        have lB1 : B1.length = e - m := by rw [hB1]; simp; omega
        have lB2 : B2.length = b - e := by rw [hB2]; simp; omega
        have F1 : ∀ x ∈ A1, ∀ y ∈ B2, x.1 ≤ y.1 := fun x hx y hy => by
          rw [hA1] at hx
          rw [hB2] at hy
          obtain ⟨i, hi, hik, rfl⟩ := mem_take' hx
          obtain ⟨j, hj, hjk, rfl⟩ := mem_drop' hy
          rw [← kA i hi, ← kB j hj]
          have q1 := t4 (s - 1) (by omega) (by omega)
          have q2 := mA (a + i) (s - 1) (by omega) (by omega) (by omega)
          have q3 := mB (n - 1 - (s - 1)) (m + j) (by omega) (by omega) (by omega)
          omega
        have F2 : ∀ x ∈ A2, ∀ y ∈ B1, y.1 < x.1 := fun x hx y hy => by
          rw [hA2] at hx
          rw [hB1] at hy
          obtain ⟨i, hi, hik, rfl⟩ := mem_drop' hx
          obtain ⟨j, hj, hjk, rfl⟩ := mem_take' hy
          rw [← kA i hi, ← kB j hj]
          have q1 := t5 s (Nat.le_refl _) (by omega)
          have q2 := mA s (a + i) (by omega) (by omega) (by omega)
          have q3 := mB (m + j) (n - 1 - s) (by omega) (by omega) (by omega)
          omega
        obtain ⟨sA1, sA2, sA12⟩ := Srt.app.1 (show Srt (A1 ++ A2) by rw [← eA]; exact sA)
        obtain ⟨sB1, sB2, sB12⟩ := Srt.app.1 (show Srt (B1 ++ B2) by rw [← eB]; exact sB)
        have hE6 := p24_6_eq C prog.meth (some (o, 0)) l (.unk 0) (a : Int) (m : Int) (b : Int) (some 19) [] [] (mid : Int) (n : Int) (s : Int) (s : Int) ((n - 1 : Nat) : Int) M1
        have irr : ¬ ((s : Int) < (s : Int)) := by omega
        have w6 : IntKind.wrap .i64 ((n : Int) - (s : Int)) = (e : Int) := by rw [i64sub (by omega) (by omega), he]
        simp only [irr, decide_false, cond_false, w6] at hE6
        have hd1 := hd.upto t6
        have rot : ∃ M2, p24_6 C prog.meth (some (o, 0)) l (.unk 0) (a : Int) (m : Int) (b : Int) (some 19) [] [] (mid : Int) (n : Int) (s : Int) (s : Int) ((n - 1 : Nat) : Int) M1 = p24_9 C prog.meth (some (o, 0)) l (.unk 0) (a : Int) (b : Int) (some 19) [] [] (mid : Int) (s : Int) (e : Int) M2 ∧ Dat o M2 (P ++ (A1 ++ B1) ++ ((A2 ++ B2) ++ Q)) ∧ Mem.But (· = o) M1 M2 := by
          by_cases h4 : ((s : Nat) : Int) < ((m : Nat) : Int)
          · by_cases h5 : ((m : Nat) : Int) < ((e : Nat) : Int)
            · obtain ⟨M2, r1, r2, r3⟩ := Rot_C (M := M1) (o := o) (P := P ++ A1) (U := A2) (V := B1) (Q := B2 ++ Q) (m := m) (b := e) hl60 (by omega) (by omega) (by simp; omega) (by omega) (by rw [hll, eA, eB]; simp; omega) (by
                have e3 : (P ++ A1) ++ (A2 ++ B1) ++ (B2 ++ Q) = P ++ (A ++ B) ++ Q := by rw [eA, eB]; simp
                rw [e3]; exact hd1)
              rw [show (P ++ A1).length = s by simp; omega] at r1
              simp only [h4, h5, decide_true, cond_true] at hE6
              rw [r1, Option.bind_some] at hE6
              simp only [Option.bind_some, List.getElem?_cons_zero, List.getElem?_cons_succ, int?_int, AVal.bool?, AVal.ptr?, AVal.sl?, AVal.tup?, AVal.agg?, AVal.ifc?, AVal.fn?, AVal.str?, List.head?_cons, List.tail_cons, List.isEmpty_nil, cond_true, cond_false, Option.isNone_some, Option.isNone_none, Bool.not_true, Bool.not_false, decide_true, decide_false, beq_self_eq_true, bne_self_eq_false, Int.reduceBEq, Int.reduceBNe, Int.cast_ofNat_Int] at hE6
              exact ⟨M2, hE6, by simpa using r2, r3⟩
            · simp only [h4, h5, decide_true, decide_false, cond_true, cond_false] at hE6
              obtain rfl : B1 = [] := List.length_eq_zero_iff.1 (by omega)
              refine ⟨M1, hE6, ?_, Mem.But.refl _ _⟩
              have e3 : P ++ (A1 ++ []) ++ ((A2 ++ B2) ++ Q) = P ++ (A ++ B) ++ Q := by rw [eA, eB]; simp
              rw [e3]; exact hd1
          · simp only [h4, decide_false, cond_false] at hE6
            obtain rfl : A2 = [] := List.length_eq_zero_iff.1 (by omega)
            refine ⟨M1, hE6, ?_, Mem.But.refl _ _⟩
            have e3 : P ++ (A1 ++ B1) ++ (([] ++ B2) ++ Q) = P ++ (A ++ B) ++ Q := by rw [eA, eB]; simp
            rw [e3]; exact hd1
        obtain ⟨M2, hE7, hd2, b2⟩ := rot
        have hE9 := p24_9_eq C prog.meth (some (o, 0)) l (.unk 0) (a : Int) (b : Int) (some 19) [] [] (mid : Int) (s : Int) (e : Int) M2
        -- the left half
        have left : ∃ M3 S1, p24_9 C prog.meth (some (o, 0)) l (.unk 0) (a : Int) (b : Int) (some 19) [] [] (mid : Int) (s : Int) (e : Int) M2 = p24_10 C prog.meth (some (o, 0)) l (.unk 0) (b : Int) (some 19) [] [] (mid : Int) (e : Int) M3 ∧ Dat o M3 (P ++ S1 ++ ((A2 ++ B2) ++ Q)) ∧ S1.length = A1.length + B1.length ∧ Srt S1 ∧ St (A1 ++ B1) S1 ∧ Mem.But (· = o) M2 M3 := by
          by_cases h4 : ((a : Nat) : Int) < ((s : Nat) : Int)
          · by_cases h5 : ((s : Nat) : Int) < ((mid : Nat) : Int)
            · obtain ⟨M3, S1, r1, r2, r3, r4, r5, r6⟩ := ih P A1 B1 ((A2 ++ B2) ++ Q) M2 a s mid (by omega) (by omega) (by omega) sA1 sB1 ha (by omega) (by omega) (by rw [hll]; simp; omega) hd2
              simp only [h4, h5, decide_true, cond_true] at hE9
              rw [r1, Option.bind_some] at hE9
              simp only [Option.bind_some, List.getElem?_cons_zero, List.getElem?_cons_succ, int?_int, AVal.bool?, AVal.ptr?, AVal.sl?, AVal.tup?, AVal.agg?, AVal.ifc?, AVal.fn?, AVal.str?, List.head?_cons, List.tail_cons, List.isEmpty_nil, cond_true, cond_false, Option.isNone_some, Option.isNone_none, Bool.not_true, Bool.not_false, decide_true, decide_false, beq_self_eq_true, bne_self_eq_false, Int.reduceBEq, Int.reduceBNe, Int.cast_ofNat_Int] at hE9
              exact ⟨M3, S1, hE9, r2, r3, r4, r5, r6⟩
            · simp only [h4, h5, decide_true, decide_false, cond_true, cond_false] at hE9
              obtain rfl : B1 = [] := List.length_eq_zero_iff.1 (by omega)
              exact ⟨M2, A1 ++ [], hE9, hd2, by simp, by simpa using sA1, St.refl _, Mem.But.refl _ _⟩
          · simp only [h4, decide_false, cond_false] at hE9
            obtain rfl : A1 = [] := List.length_eq_zero_iff.1 (by omega)
            exact ⟨M2, [] ++ B1, hE9, hd2, by simp, by simpa using sB1, St.refl _, Mem.But.refl _ _⟩
        obtain ⟨M3, S1, hE10, hd3, lS1, sS1, tS1, b3⟩ := left
        have hE11 := p24_10_eq C prog.meth (some (o, 0)) l (.unk 0) (b : Int) (some 19) [] [] (mid : Int) (e : Int) M3
        have e4 : P ++ S1 ++ ((A2 ++ B2) ++ Q) = (P ++ S1) ++ (A2 ++ B2) ++ Q := by simp
        rw [e4] at hd3
        have right : ∃ M4 S2, p24_10 C prog.meth (some (o, 0)) l (.unk 0) (b : Int) (some 19) [] [] (mid : Int) (e : Int) M3 = some (.tup [], M4) ∧ Dat o M4 ((P ++ S1) ++ S2 ++ Q) ∧ S2.length = A2.length + B2.length ∧ Srt S2 ∧ St (A2 ++ B2) S2 ∧ Mem.But (· = o) M3 M4 := by
          by_cases h4 : ((mid : Nat) : Int) < ((e : Nat) : Int)
          · by_cases h5 : ((e : Nat) : Int) < ((b : Nat) : Int)
            · obtain ⟨M4, S2, r1, r2, r3, r4, r5, r6⟩ := ih (P ++ S1) A2 B2 Q M3 mid e b (by omega) (by omega) (by omega) sA2 sB2 (by simp; omega) (by omega) (by omega) (by rw [hll]; simp; omega) hd3
              simp only [h4, h5, decide_true, cond_true] at hE11
              rw [r1, Option.bind_some] at hE11
              simp only [Option.bind_some, List.getElem?_cons_zero, List.getElem?_cons_succ, int?_int, AVal.bool?, AVal.ptr?, AVal.sl?, AVal.tup?, AVal.agg?, AVal.ifc?, AVal.fn?, AVal.str?, List.head?_cons, List.tail_cons, List.isEmpty_nil, cond_true, cond_false, Option.isNone_some, Option.isNone_none, Bool.not_true, Bool.not_false, decide_true, decide_false, beq_self_eq_true, bne_self_eq_false, Int.reduceBEq, Int.reduceBNe, Int.cast_ofNat_Int] at hE11
              exact ⟨M4, S2, hE11, r2, r3, r4, r5, r6⟩
            · simp only [h4, h5, decide_true, decide_false, cond_true, cond_false] at hE11
              obtain rfl : B2 = [] := List.length_eq_zero_iff.1 (by omega)
              exact ⟨M3, A2 ++ [], hE11, hd3, by simp, by simpa using sA2, St.refl _, Mem.But.refl _ _⟩
          · simp only [h4, decide_false, cond_false] at hE11
            obtain rfl : A2 = [] := List.length_eq_zero_iff.1 (by omega)
            exact ⟨M3, [] ++ B2, hE11, hd3, by simp, by simpa using sB2, St.refl _, Mem.But.refl _ _⟩
        obtain ⟨M4, S2, hE12, hd4, lS2, sS2, tS2, b4⟩ := right
        refine ⟨M4, S1 ++ S2, c24 (hE3.trans (t1.trans (hE7.trans (hE10.trans hE12)))), by simpa using hd4, by simp; omega, Srt.app.2 ⟨sS1, sS2, fun x hx y hy => ?_⟩, ?_, (((t6.but _).trans b2 (fun _ _ h => h)).trans b3 (fun _ _ h => h)).trans b4 (fun _ _ h => h)⟩
        · rcases List.mem_append.1 (tS1.mem.2 hx) with hx | hx <;> rcases List.mem_append.1 (tS2.mem.2 hy) with hy | hy
          · exact sA12 x hx y hy
          · exact F1 x hx y hy
          · have := F2 y hy x hx; omega
          · exact sB12 x hx y hy
        · have e5 : A ++ B = A1 ++ ((A2 ++ B1) ++ B2) := by rw [eA, eB]; simp
          rw [e5]
          refine St.trans ((St.refl A1).app ((St.swap (A := A2) (B := B1) (fun u hu v hv => by have := F2 u hu v hv; omega)).app (St.refl B2))) ?_
          have e6 : A1 ++ ((B1 ++ A2) ++ B2) = (A1 ++ B1) ++ (A2 ++ B2) := by simp
          rw [e6]
          exact tS1.app tS2
end
end Go.Proofs.Ytlglggcheffoeaa.M
