/- The package flow: Check, Loops, Steps, Next. -/
import Derived.Test.YtjfhapfdahdniaaGC
set_option linter.unusedVariables false
set_option linter.unusedSimpArgs false
set_option linter.unnecessarySimpa false
set_option maxRecDepth 100000
namespace Go.Proofs.Ytjfhapfdahdniaa.M
open Go.Abs Go.RowKit

section
variable {xs : List Ins} {M M0 M1 : Mem} {a : Option (Nat × Nat)} {l : Nat} {c : Cap} {s : Nat}
theorem okA_j {i : Nat} (h : okA (iA xs i) = true) (hj : jA xs i = true) : 0 ≤ offA xs i ∧ offA xs i ≤ 255 := by
  unfold okA at h
  unfold jA opA at hj
  unfold offA
  generalize iA xs i = x at h hj ⊢
  obtain ⟨op, d, sr, o, im⟩ := x
  simp only at h hj ⊢
  have hc : cls op = 8 ∨ cls op = 9 ∨ cls op = 10 := by
    simp only [Bool.or_eq_true, Bool.and_eq_true, Nat.beq_eq_true_eq, Nat.ble_eq] at hj
    rcases hj with h1 | ⟨h1, h2⟩
    · obtain rfl := Nat.eq_of_beq_eq_true h1
      exact .inl rfl
    · have : ∀ n, n < 10 → cls (23 + n) = 9 ∨ cls (23 + n) = 10 := by decide
      have := this (op - 23) (by omega)
      rw [show 23 + (op - 23) = op by omega] at this
      exact .inr this
  unfold okB okS at h
  have key : offS (cls op) o = true := by
    cases hh : offS (cls op) o with
    | true => rfl
    | false =>
      rw [hh] at h
      simp at h
  have : wi o 0 255 = true := by
    rcases hc with hc | hc | hc <;> rw [hc] at key <;> exact key
  unfold wi at this
  by_cases h0 : o ≥ 0
  · rw [decide_eq_true h0, cond_true] at this
    exact ⟨h0, of_decide_eq_true this⟩
  · rw [decide_eq_false h0] at this; cases this
theorem okA_rep {i : Nat} (h : okA (iA xs i) = true) (hj : RA xs i = true) : 1 ≤ immA xs i ∧ immA xs i ≤ 16 := by
  unfold okA at h
  unfold RA opA at hj
  unfold immA
  generalize iA xs i = x at h hj ⊢
  obtain ⟨op, d, sr, o, im⟩ := x
  simp only at h hj ⊢
  obtain rfl := Nat.eq_of_beq_eq_true hj
  unfold okB okS at h
  have key : immS szR hpR 11 im = true := by
    cases hh : immS szR hpR 11 im with
    | true => rfl
    | false =>
      rw [show cls 33 = 11 from rfl, hh] at h
      simp at h
  have : wi im 1 16 = true := key
  unfold wi at this
  by_cases h0 : im ≥ 1
  · rw [decide_eq_true h0, cond_true] at this
    exact ⟨h0, of_decide_eq_true this⟩
  · rw [decide_eq_false h0] at this; cases this
theorem check_C (hx : Sl M 5 encI a l c xs) (hcut0 : Cut M a l c) (hr : ∀ x ∈ xs, InsR x) : ∃ M' po, C 21 [.sl a l c] M = some (.tup [.ptr po, .int .i64 (chkA xs).1, .int .i64 (chkA xs).2], M') ∧ M.Upto M' ∧ ((chkA xs).2 = 0 → ∃ s, po = some (s, 0) ∧ Shp M' s xs) := by
  have hE := p21_0_eq C prog.meth a l c M
  have hl := hx.2
  by_cases h256 : (l : Int) > 256
  · simp only [h256, decide_true, cond_true] at hE
    have e : chkA xs = (0, 3) := by unfold chkA; rw [if_pos (by omega)]
    rw [e]
    exact ⟨M, none, c21 hE, Mem.Upto.refl _, fun h => by cases h⟩
  by_cases h0 : l = 0
  · simp only [h256, decide_false, cond_false, h0, Int.cast_ofNat_Int, beq_self_eq_true, cond_true] at hE
    have e : chkA xs = (0, 140) := by unfold chkA; rw [if_neg (by omega), if_pos (by omega)]
    rw [e, h0]
    exact ⟨M, none, c21 hE, Mem.Upto.refl _, fun h => by cases h⟩
  have q0 : ((l : Int) == 0) = false := by simp; omega
  simp only [h256, decide_false, cond_false, q0] at hE
  have hIn : ∀ i, i < xs.length → InsR (iA xs i) := fun i hi => by rw [iA_get hi]; exact hr _ (List.getElem_mem hi)
  have unf : chkA xs = chkI xs xs.length 0 := by unfold chkA; rw [if_neg (by omega), if_neg (by omega)]
  have hbl := badA_le xs
  -- the second walk
  have loop2 : ∀ (d i : Nat) (M1 : Mem) (s : Nat), (∀ j, j < xs.length → okA (iA xs j) = true) → i + d = badA xs → M.Upto M1 → Shp M1 s xs → ∀ (ba : Option (Nat × Nat)) (bc : Cap), Sl M1 5 encI ba (badA xs) bc (xs.take (badA xs)) →
      ∃ M' po, p21_2 C prog.meth a l c (some (s, 0)) (badA xs : Int) ba (badA xs) bc (badA xs : Int) (i : Int) M1 = some (.tup [.ptr po, .int .i64 (chkJ xs d i).1, .int .i64 (chkJ xs d i).2], M') ∧ M.Upto M' ∧
        ((chkJ xs d i).2 = 0 → ∃ s, po = some (s, 0) ∧ Shp M' s xs) := by
    intro d
    induction d with
    | zero =>
      intro i M1 s hok hi hu hs ba bc hb
      have hF := p21_2_eq C prog.meth a l c (some (s, 0)) (badA xs : Int) ba (badA xs) bc (badA xs : Int) (i : Int) M1
      have q1 : ¬ ((i : Int) < (badA xs : Int)) := by omega
      simp only [q1, decide_false, cond_false] at hF
      by_cases hbad : badA xs < xs.length
      · have q2 : ((badA xs : Int) < (l : Int)) := by omega
        simp only [q2, decide_true, cond_true] at hF
        refine ⟨M1, none, ?_, hu, fun h => ?_⟩
        · rw [hF]; simp only [chkJ, fst, if_pos hbad]
        · simp only [chkJ, fst, if_pos hbad] at h; cases h
      · have q2 : ¬ ((badA xs : Int) < (l : Int)) := by omega
        simp only [q2, decide_false, cond_false] at hF
        refine ⟨M1, some (s, 0), ?_, hu, fun _ => ⟨s, rfl, hs⟩⟩
        rw [hF]; simp only [chkJ, fst, if_neg hbad]
    | succ d ih =>
      intro i M1 s hok hi hu hs ba bc hb
      have hF := p21_2_eq C prog.meth a l c (some (s, 0)) (badA xs : Int) ba (badA xs) bc (badA xs : Int) (i : Int) M1
      have hib : i < badA xs := by omega
      have hil : i < xs.length := by omega
      have q1 : ((i : Int) < (badA xs : Int)) := by omega
      have k1 : (0 : Int) ≤ (i : Int) := by omega
      have k2 : Nat.blt i (badA xs) = true := Mem.blt_iff.2 hib
      have et : iA (xs.take (badA xs)) i = iA xs i := by
        rw [iA_get (by simp; omega), iA_get hil, List.getElem_take]
      obtain ⟨pp, p1, d1, d2, d3, d4, d5, -, -⟩ := in_ld hb hib
      simp only [opA, offA, immA, et] at d1 d2 d3 d4 d5
      obtain ⟨M2, m1, m2, m3, m4⟩ := ibox M1 (iA xs i)
      obtain ⟨r0, r1, r2, r3, r4⟩ := ibox_rd m4
      obtain ⟨_, j1, -⟩ := jumps_C (iA xs i) Mem.empty
      have w1 : IntKind.wrap .i64 ((i : Int) + 1) = ((i + 1 : Nat) : Int) := by rw [wrap_i64 (by omega) (by omega)]; rfl
      have w2 : IntKind.wrap .i64 ((l : Int) - 1) = ((l - 1 : Nat) : Int) := by rw [wrap_i64 (by omega) (by omega)]; omega
      have e36 : (((iA xs i).1 : Int) != 36) = !Nat.beq (opA xs i) 36 := by
        unfold opA
        by_cases h : (iA xs i).1 = 36
        · rw [h]; rfl
        · rw [beq_false h]; simp; omega
      have el : ((i : Int) == ((l - 1 : Nat) : Int)) = Nat.beq (i + 1) xs.length := by
        by_cases h : i + 1 = xs.length
        · rw [h, Nat.beq_refl]; simp; omega
        · rw [beq_false h]; simp; omega
      simp only [q1, decide_true, cond_true, k1, Int.toNat_natCast, k2, p1, Option.bind_some, d1, d2, d3, d4, d5, m1, w1, w2, r0, r1, r2, r3, r4, j1, AVal.bool?, e36, el] at hF
      have hj : (Nat.beq (iA xs i).1 22 || (Nat.ble 23 (iA xs i).1 && Nat.ble (iA xs i).1 32)) = jA xs i := rfl
      rw [hj] at hF
      have hu2 := hu.trans m2
      have hs2 := hs.upto m2
      have hland : jA xs i = true → C 29 [.sl a l c, .ptr (some (s, 0)), .int .i64 (i : Int)] M2 = some (.bool (landsA xs i), M2) := fun hji => by
        have := okA_j (hok i hil) hji
        exact lands_C (hx.upto encI5 (by omega) hu2) hs2 hil (by omega) (by omega)
      have stop : jbA xs i = true → (p21_2 C prog.meth a l c (some (s, 0)) (badA xs : Int) ba (badA xs) bc (badA xs : Int) (i : Int) M1 = some (.tup [.ptr none, .int .i64 (i : Int), .int .i64 140], M2)) → _ := fun hb1 hF =>
        (⟨M2, none, by rw [hF, chkJ, fst, if_pos hb1], hu2, fun h => by rw [chkJ, fst, if_pos hb1] at h; cases h⟩ : ∃ M' po, p21_2 C prog.meth a l c (some (s, 0)) (badA xs : Int) ba (badA xs) bc (badA xs : Int) (i : Int) M1 = some (.tup [.ptr po, .int .i64 (chkJ xs (d + 1) i).1, .int .i64 (chkJ xs (d + 1) i).2], M') ∧ M.Upto M' ∧
        ((chkJ xs (d + 1) i).2 = 0 → ∃ s, po = some (s, 0) ∧ Shp M' s xs))
      have goon : jbA xs i = false → (p21_2 C prog.meth a l c (some (s, 0)) (badA xs : Int) ba (badA xs) bc (badA xs : Int) (i : Int) M1 = p21_2 C prog.meth a l c (some (s, 0)) (badA xs : Int) ba (badA xs) bc (badA xs : Int) ((i + 1 : Nat) : Int) M2) → ∃ M' po, p21_2 C prog.meth a l c (some (s, 0)) (badA xs : Int) ba (badA xs) bc (badA xs : Int) (i : Int) M1 = some (.tup [.ptr po, .int .i64 (chkJ xs (d + 1) i).1, .int .i64 (chkJ xs (d + 1) i).2], M') ∧ M.Upto M' ∧
        ((chkJ xs (d + 1) i).2 = 0 → ∃ s, po = some (s, 0) ∧ Shp M' s xs) := fun hb1 hF => by
        have e : chkJ xs (d + 1) i = chkJ xs d (i + 1) := by
          unfold chkJ; rw [fst, if_neg (by rw [hb1]; simp)]
        rw [e, hF]
        exact ih (i + 1) M2 s hok (by omega) hu2 hs2 ba bc (hb.upto encI5 (by omega) m2)
      unfold jbA at stop goon
      cases e1 : Nat.beq (i + 1) xs.length <;> cases e2 : Nat.beq (opA xs i) 36 <;> cases e3 : jA xs i <;> rw [e1, e2, e3] at stop goon <;> simp only [e1, e2, e3, Bool.not_true, Bool.not_false, cond_true, cond_false] at hF
      all_goals first
        | (rw [hland e3, Option.bind_some] at hF
           simp only [AVal.bool?, Option.bind_some] at hF
           cases e4 : landsA xs i <;> rw [e4] at stop goon <;> simp only [e4, Bool.not_true, Bool.not_false, cond_true, cond_false] at hF
           · exact stop rfl hF
           · exact goon rfl hF)
        | exact stop rfl hF
        | exact goon rfl hF
  -- the first
  have loop1 : ∀ (d i : Nat) (M1 : Mem), i + d = l → (∀ j, j < i → okA (iA xs j) = true) → M.Upto M1 → ∃ M' po, p21_1 C prog.meth a l c a l c (l : Int) (i : Int) M1 = some (.tup [.ptr po, .int .i64 (chkI xs d i).1, .int .i64 (chkI xs d i).2], M') ∧ M.Upto M' ∧ ((chkI xs d i).2 = 0 → ∃ s, po = some (s, 0) ∧ Shp M' s xs) := by
    intro d
    induction d with
    | zero =>
      intro i M1 hi hok hu
      have hF := p21_1_eq C prog.meth a l c a l c (l : Int) (i : Int) M1
      have q1 : ¬ ((i : Int) < (l : Int)) := by omega
      obtain ⟨M2, s, s1, s2, s3⟩ := shaped_C (hx.upto encI5 (by omega) hu) hr (by omega)
      have hu2 := hu.trans s2
      simp only [q1, decide_false, cond_false, s1, Option.bind_some, AVal.tup?, List.head?_cons, AVal.ptr?, List.tail_cons, int?_int, List.isEmpty_nil, cond_true] at hF
      have hx2 := hx.upto encI5 (by omega) hu2
      obtain ⟨ba, bc, hcut, hsl⟩ := (hcut0.upto hu2).to hx2 (n := badA xs) (by omega)
      rw [hcut] at hF
      obtain ⟨M', po, t1, t2, t3⟩ := loop2 (badA xs) 0 M2 s (fun j hj => hok j (by omega)) (by omega) hu2 s3 ba bc hsl
      exact ⟨M', po, hF.trans t1, t2, t3⟩
    | succ d ih =>
      intro i M1 hi hok hu
      have hF := p21_1_eq C prog.meth a l c a l c (l : Int) (i : Int) M1
      have hil : i < l := by omega
      have q1 : ((i : Int) < (l : Int)) := by omega
      have k1 : (0 : Int) ≤ (i : Int) := by omega
      have k2 : Nat.blt i l = true := Mem.blt_iff.2 hil
      obtain ⟨pp, p1, d1, d2, d3, d4, d5, -, -⟩ := in_ld (hx.upto encI5 (by omega) hu) hil
      simp only [opA, offA, immA] at d1 d2 d3 d4 d5
      obtain ⟨M2, m1, m2, m3, m4⟩ := ibox M1 (iA xs i)
      obtain ⟨r0, r1, r2, r3, r4⟩ := ibox_rd m4
      obtain ⟨_, j1, -⟩ := Check_B (M := Mem.empty) (hIn i (by omega))
      have w1 : IntKind.wrap .i64 ((i : Int) + 1) = ((i + 1 : Nat) : Int) := by rw [wrap_i64 (by omega) (by omega)]; rfl
      simp only [q1, decide_true, cond_true, k1, Int.toNat_natCast, k2, p1, Option.bind_some, d1, d2, d3, d4, d5, m1, w1, r0, r1, r2, r3, r4, j1, int?_int] at hF
      have ho : okB (iA xs i).1 (iA xs i).2.1 (iA xs i).2.2.1 (iA xs i).2.2.2.1 (iA xs i).2.2.2.2 = okA (iA xs i) := rfl
      rw [ho] at hF
      cases hc : okA (iA xs i) with
      | true =>
        rw [hc] at hF
        have e : chkI xs (d + 1) i = chkI xs d (i + 1) := by
          unfold chkI; rw [fst, if_neg (by simp only [hc]; simp)]
        rw [e, hF]
        exact ih (i + 1) M2 (by omega) (fun j hj => by
          by_cases hji : j = i
          · subst hji; exact hc
          · exact hok j (by omega)) (hu.trans m2)
      | false =>
        rw [hc] at hF
        have e : chkI xs (d + 1) i = ((i : Int), 130) := by
          unfold chkI; rw [fst, if_pos (by simp only [hc]; rfl)]
        rw [e, hF]
        exact ⟨M2, none, rfl, hu.trans m2, fun h => by cases h⟩
  obtain ⟨M', po, t1, t2, t3⟩ := loop1 l 0 M (by omega) (fun j hj => by omega) (Mem.Upto.refl _)
  rw [← hl] at t1 t3
  rw [unf]
  refine ⟨M', po, c21 (hE.trans ?_), t2, t3⟩
  rw [← hl]; exact t1
end
/-! Programs that may be. -/
structure Fine (xs : List Ins) : Prop where
  pos : 0 < xs.length
  le : xs.length ≤ 256
  ok : ∀ i, i < xs.length → okA (iA xs i) = true
  jb : ∀ i, i < xs.length → jbA xs i = false
  closed : stA xs xs.length = []
  deep : ∀ i, i < xs.length → RA xs i = true → (stA xs i).length < 3
  ends : ∀ i, i < xs.length → RA xs i = false → EA xs i = true → stA xs i ≠ []
section
variable {xs : List Ins}
theorem bdA_step (i : Nat) : bdA xs (i + 1) ≤ bdA xs i := by
  rw [bdA]
  repeat' split
  all_goals omega
theorem bdA_mono (i : Nat) : ∀ d, bdA xs (i + d) ≤ bdA xs i
  | 0 => Nat.le_refl _
  | d + 1 => Nat.le_trans (bdA_step (i + d)) (bdA_mono i d)
theorem foldmin_mem : ∀ (l : List Nat) (a b : Nat), b ∈ l → l.foldl (fun a b => min b a) a ≤ b
  | x :: l, a, b, h => by
    rw [List.foldl_cons]
    rcases List.mem_cons.1 h with rfl | h
    · have := foldmin_le l (min b a)
      omega
    · exact foldmin_mem l _ b h
theorem bad_iff : badA xs = xs.length ↔ stA xs xs.length = [] ∧ (∀ i, i < xs.length → RA xs i = true → (stA xs i).length < 3) ∧ (∀ i, i < xs.length → RA xs i = false → EA xs i = true → stA xs i ≠ []) := by
  constructor
  · intro h
    have hb : xs.length ≤ bdA xs xs.length := by
      have := foldmin_le (stA xs xs.length).reverse (bdA xs xs.length)
      unfold badA at h
      omega
    refine ⟨?_, fun i hi hR => ?_, fun i hi hR hE hs => ?_⟩
    · cases hs : stA xs xs.length with
      | nil => rfl
      | cons b r =>
        have hm : b ∈ stA xs xs.length := by rw [hs]; exact List.mem_cons_self
        have := foldmin_mem (stA xs xs.length).reverse (bdA xs xs.length) b (List.mem_reverse.2 hm)
        have := stk_lt hm
        unfold badA at h
        omega
    · apply Nat.lt_of_not_le
      intro h3
      have := bdA_mono (xs := xs) (i + 1) (xs.length - (i + 1))
      rw [show i + 1 + (xs.length - (i + 1)) = xs.length by omega] at this
      rw [show bdA xs (i + 1) = min i (bdA xs i) by rw [bdA, if_pos hR, if_pos (by omega)]] at this
      omega
    · have := bdA_mono (xs := xs) (i + 1) (xs.length - (i + 1))
      rw [show i + 1 + (xs.length - (i + 1)) = xs.length by omega] at this
      rw [show bdA xs (i + 1) = min i (bdA xs i) by rw [bdA, if_neg (by rw [hR]; simp), if_pos hE, if_pos (by rw [hs]; rfl)]] at this
      omega
  · intro ⟨h1, h2, h3⟩
    have hb : ∀ i, i ≤ xs.length → bdA xs i = xs.length := by
      intro i
      induction i with
      | zero => intro _; rfl
      | succ i ih =>
        intro hi
        have ih := ih (by omega)
        rw [bdA]
        by_cases hR : RA xs i = true
        · have := h2 i (by omega) hR
          rw [if_pos hR, if_neg (by omega), ih]
        · rw [if_neg hR]
          by_cases hE : EA xs i = true
          · have := h3 i (by omega) (by simpa using hR) hE
            rw [if_pos hE, if_neg (fun h => this (List.length_eq_zero_iff.1 h)), ih]
          · rw [if_neg hE, ih]
    unfold badA
    rw [h1, hb _ (Nat.le_refl _)]; rfl
theorem chkJ_zero : (chkJ xs (badA xs) 0).2 = 0 ↔ badA xs = xs.length ∧ ∀ i, i < xs.length → jbA xs i = false := by
  have hle := badA_le xs
  unfold chkJ
  cases hf : fst (jbA xs) (badA xs) 0 with
  | some i =>
    obtain ⟨_, h1, h2⟩ := fst_some _ _ _ hf
    refine ⟨fun h => (by cases h), fun h => ?_⟩
    rw [h.2 i (by omega)] at h2; cases h2
  | none =>
    have hf := (fst_none _ _).1 hf
    by_cases hb : badA xs < xs.length
    · simp only [if_pos hb]
      exact ⟨fun h => (by cases h), fun h => by omega⟩
    · simp only [if_neg hb]
      exact ⟨fun _ => ⟨by omega, fun i hi => hf i (by omega) (by omega)⟩, fun _ => by trivial⟩
theorem chkA_zero : (chkA xs).2 = 0 ↔ Fine xs := by
  unfold chkA
  by_cases h1 : xs.length > 256
  · rw [if_pos h1]
    exact ⟨fun h => (by cases h), fun h => by have := h.le; omega⟩
  rw [if_neg h1]
  by_cases h2 : xs.length = 0
  · rw [if_pos h2]
    exact ⟨fun h => (by cases h), fun h => by have := h.pos; omega⟩
  rw [if_neg h2]
  unfold chkI
  cases hf : fst (fun i => !okA (iA xs i)) xs.length 0 with
  | some i =>
    obtain ⟨_, k1, k2⟩ := fst_some _ _ _ hf
    refine ⟨fun h => (by cases h), fun h => ?_⟩
    simp only [h.ok i (by omega)] at k2; cases k2
  | none =>
    have hf := (fst_none _ _).1 hf
    simp only
    rw [chkJ_zero, bad_iff]
    constructor
    · intro ⟨⟨a1, a2, a3⟩, a4⟩
      exact ⟨by omega, by omega, fun i hi => by simpa using hf i (by omega) (by omega), a4, a1, a2, a3⟩
    · intro h
      exact ⟨⟨h.closed, h.deep, h.ends⟩, h.jb⟩
theorem Fine.len3 (h : Fine xs) : ∀ i, i ≤ xs.length → (stA xs i).length ≤ 3 := by
  intro i
  induction i with
  | zero => intro _; exact Nat.zero_le _
  | succ i ih =>
    intro hi
    have ih := ih (by omega)
    show (stk (RA xs) (EA xs) (i + 1)).length ≤ 3
    rw [stk]
    split
    · have := h.deep i (by omega) (by assumption)
      simp only [List.length_cons]
      exact this
    · split
      · rw [List.length_tail]; exact Nat.le_trans (Nat.sub_le _ _) ih
      · exact ih
def TA (xs : List Ins) (i : Nat) : Nat := (immA xs i).toNat
theorem Fine.T (h : Fine xs) {b : Nat} (hb : RA xs b = true) : 1 ≤ TA xs b ∧ TA xs b ≤ 16 ∧ immA xs b = (TA xs b : Int) := by
  have := okA_rep (h.ok b (RA_lt hb)) hb
  unfold TA
  omega
def stepsA (xs : List Ins) : Nat := sm (RA xs) (EA xs) (TA xs) 0 0 xs.length
/-- The places that may come next. -/
def nxA (xs : List Ins) (i : Nat) : List Int :=
  if Nat.beq (opA xs i) 36 then [] else if Nat.beq (opA xs i) 22 then [(i : Int) + 1 + offA xs i] else if jA xs i && decide (offA xs i > 0) then [(i : Int) + 1, (i : Int) + 1 + offA xs i] else
  if EA xs i then (match stA xs i with
    | b :: _ => if immA xs b > 1 then [(b : Int) + 1, (i : Int) + 1] else [(i : Int) + 1]
    | [] => [(i : Int) + 1]) else [(i : Int) + 1]
def nextA (xs : List Ins) (n : Int) : List Int × Int := if (chkA xs).2 ≠ 0 then ([], (chkA xs).2) else if n < 0 ∨ n ≥ xs.length then ([], 2) else (nxA xs n.toNat, 0)
end
end Go.Proofs.Ytjfhapfdahdniaa.M
