import Derived.Test.YtidofnpfeibbfaaHN
set_option linter.unusedVariables false
set_option linter.unusedSimpArgs false
set_option linter.unnecessarySimpa false
set_option maxRecDepth 100000
namespace Go.Proofs.Ytidofnpfeibbfaa.M
open Go.Abs Go.RowKit
def PrR (p : Pr) : Prop := (0 ≤ p.1 ∧ p.1 < 18446744073709551616) ∧ 0 ≤ p.2 ∧ p.2 < 18446744073709551616
def Tbs (M : Mem) (tvs : List SlV) (Ts : List (List Pr)) : Prop := tvs.length = Ts.length ∧ ∀ (i : Nat) (w : SlV) (T : List Pr), tvs[i]? = some w → Ts[i]? = some T → Sl M 2 encP w.1 w.2.1 w.2.2 T
theorem Tbs.nil (M : Mem) : Tbs M [] [] := ⟨rfl, fun i w T h => by simp at h⟩
theorem Tbs.snoc {M : Mem} {tvs : List SlV} {Ts : List (List Pr)} {w : SlV} {T : List Pr} (h : Tbs M tvs Ts) (hw : Sl M 2 encP w.1 w.2.1 w.2.2 T) : Tbs M (tvs ++ [w]) (Ts ++ [T]) := by
  refine ⟨by simp [h.1], fun i w' T' h1 h2 => ?_⟩
  have hl := h.1
  by_cases e : i < tvs.length
  · rw [List.getElem?_append_left e] at h1
    rw [List.getElem?_append_left (by omega)] at h2
    exact h.2 i w' T' h1 h2
  · rw [List.getElem?_append_right (by omega)] at h1
    rw [List.getElem?_append_right (by omega)] at h2
    have e0 : i - tvs.length = 0 := by
      by_cases e0 : i - tvs.length = 0
      · exact e0
      · rw [List.getElem?_eq_none (by simp; omega)] at h1; simp at h1
    rw [e0] at h1
    rw [show i - Ts.length = 0 by omega] at h2
    simp only [List.getElem?_cons_zero, Option.some.injEq] at h1 h2
    subst h1 h2; exact hw
theorem Tbs.same {M M' : Mem} {tvs : List SlV} {Ts : List (List Pr)} (h : Tbs M tvs Ts) (hg : ∀ w ∈ tvs, ∀ o ∈ fpOf w.1, M'.get o = M.get o) : Tbs M' tvs Ts := ⟨h.1, fun i w T h1 h2 => (h.2 i w T h1 h2).same (fun p hp => hg w (List.mem_of_getElem? h1) p.1 (by rw [hp]; simp [fpOf]))⟩
theorem Tbs.upto {M M' : Mem} {tvs : List SlV} {Ts : List (List Pr)} (h : Tbs M tvs Ts) (hu : M.Upto M') : Tbs M' tvs Ts := ⟨h.1, fun i w T h1 h2 => (h.2 i w T h1 h2).upto encP2 (by omega) hu⟩
section
variable {M : Mem}
theorem hpairs_of {v : AVal} (h : Shows M (.sl 16 [.int .u64, .int .u64]) v) : ∃ (s : SlV) (xs : List Pr), v = .sl s.1 s.2.1 s.2.2 ∧ Sl M 2 encP s.1 s.2.1 s.2.2 xs ∧ s.2.1 * 16 ≤ reachBytes ∧ ∀ p ∈ xs, PrR p := by
  rw [Shows] at h
  rcases h with rfl | ⟨o, rfl⟩ | ⟨o, len, cells, rfl, h2, h3, h4, h5⟩
  · exact ⟨(_, _, _), [], rfl, Sl.nil _ _ _ _ _, by simp, by simp⟩
  · exact ⟨(_, _, _), [], rfl, Sl.nil _ _ _ _ _, by simp, by simp⟩
  · have one : ∀ i, i < len → ∃ p : Pr, (cells.drop (i * 2)).take 2 = encP p ∧ PrR p := by
      intro i hi
      have := h5 i hi
      simp only [ShowsR] at this
      obtain ⟨v0, w0, e0, hb0, v1, w1, rfl, hb1, rfl⟩ := this
      simp only [Shows] at hb0 hb1
      obtain ⟨x, rfl, hx⟩ := hb0
      obtain ⟨y, rfl, hy⟩ := hb1
      exact ⟨(x, y), e0, u64_bounds hx, u64_bounds hy⟩
    have all : ∀ n, n ≤ len → ∃ xs : List Pr, xs.length = n ∧ cells.take (n * 2) = xs.flatMap encP ∧ ∀ p ∈ xs, PrR p := by
      intro n
      induction n with
      | zero => exact fun _ => ⟨[], rfl, by simp, by simp⟩
      | succ n ih =>
        intro hn
        obtain ⟨xs, e1, e2, e3⟩ := ih (by omega)
        obtain ⟨p, f1, f2⟩ := one n (by omega)
        refine ⟨xs ++ [p], by simp [e1], ?_, fun q hq => ?_⟩
        · rw [Nat.add_mul, Nat.one_mul, List.take_add, e2, f1]; simp [List.flatMap_append]
        · rcases List.mem_append.1 hq with hq | hq
          · exact e3 q hq
          · obtain rfl : q = p := by simpa using hq
            exact f2
    obtain ⟨xs, e1, e2, e3⟩ := all len (Nat.le_refl _)
    have hc : cells.length = len * 2 := by simpa using h3
    rw [← hc, List.take_length] at e2
    refine ⟨(_, _, _), xs, rfl, ?_, h4, e3⟩
    rw [e2] at h2
    have := Sl.whole (c := .unk 0) encP2 h2 (by simp) rfl
    rwa [e1] at this
theorem htabs_of {v : AVal} (h : Shows M (.sl 24 [.sl 16 [.int .u64, .int .u64]]) v) : ∃ (s : SlV) (tvs : List SlV) (Ts : List (List Pr)), v = .sl s.1 s.2.1 s.2.2 ∧ Sl M 1 encS s.1 s.2.1 s.2.2 tvs ∧ Tbs M tvs Ts ∧ s.2.1 * 24 ≤ reachBytes ∧ ∀ T ∈ Ts, T.length * 16 ≤ reachBytes ∧ ∀ p ∈ T, PrR p := by
  rw [Shows] at h
  rcases h with rfl | ⟨o, rfl⟩ | ⟨o, len, cells, rfl, h2, h3, h4, h5⟩
  · exact ⟨(_, _, _), [], [], rfl, Sl.nil _ _ _ _ _, Tbs.nil _, by simp, by simp⟩
  · exact ⟨(_, _, _), [], [], rfl, Sl.nil _ _ _ _ _, Tbs.nil _, by simp, by simp⟩
  · have one : ∀ i, i < len → ∃ (p : SlV) (T : List Pr), (cells.drop (i * 1)).take 1 = encS p ∧ Sl M 2 encP p.1 p.2.1 p.2.2 T ∧ T.length * 16 ≤ reachBytes ∧ ∀ q ∈ T, PrR q := by
      intro i hi
      have := h5 i hi
      simp only [ShowsR] at this
      obtain ⟨v0, w0, e0, hb0, rfl⟩ := this
      obtain ⟨p, T, rfl, hs, hl, hr⟩ := hpairs_of hb0
      exact ⟨p, T, e0, hs, by rw [hs.2]; exact hl, hr⟩
    have all : ∀ n, n ≤ len → ∃ (xs : List SlV) (Ts : List (List Pr)), xs.length = n ∧ cells.take (n * 1) = xs.flatMap encS ∧ Tbs M xs Ts ∧ ∀ T ∈ Ts, T.length * 16 ≤ reachBytes ∧ ∀ p ∈ T, PrR p := by
      intro n
      induction n with
      | zero => exact fun _ => ⟨[], [], rfl, by simp, Tbs.nil _, by simp⟩
      | succ n ih =>
        intro hn
        obtain ⟨xs, Ts, e1, e2, e3, e4⟩ := ih (by omega)
        obtain ⟨p, T, f1, f2, f3⟩ := one n (by omega)
        refine ⟨xs ++ [p], Ts ++ [T], by simp [e1], ?_, e3.snoc f2, fun q hq => ?_⟩
        · rw [Nat.add_mul, Nat.one_mul, List.take_add, e2, f1]; simp [List.flatMap_append]
        · rcases List.mem_append.1 hq with hq | hq
          · exact e4 q hq
          · obtain rfl : q = T := by simpa using hq
            exact f3
    obtain ⟨xs, Ts, e1, e2, e3, e4⟩ := all len (Nat.le_refl _)
    have hc : cells.length = len * 1 := by simpa using h3
    rw [← hc, List.take_length] at e2
    refine ⟨(_, _, _), xs, Ts, rfl, ?_, e3, h4, e4⟩
    rw [e2] at h2
    have := Sl.whole (c := .unk 0) encS1 h2 (by simp) rfl
    rwa [e1] at this
theorem hscr_of {v : AVal} (h : Shows M (.sl 24 [.sl 40 [.int .u8, .int .i64, .sl 1 [.int .u8]]]) v) (hq : RoNew 1048576 Mem.empty M) : ∃ (s : SlV) (dvs : List SlV) (scr : List (List Deed)), v = .sl s.1 s.2.1 s.2.2 ∧ Sl M 1 encS s.1 s.2.1 s.2.2 dvs ∧ s.2.1 ≤ 1048576 ∧ dvs.length = scr.length ∧
    (∀ (i : Nat) (w : SlV) (L : List Deed), dvs[i]? = some w → scr[i]? = some L → Deeds M w.1 w.2.1 w.2.2 L) ∧ ∀ L ∈ scr, L.length ≤ 1048576 ∧ ∀ d ∈ L, DeedOk d ∧ d.2.2.length ≤ 1048576 := by
  obtain ⟨a0, l0, c0, rfl, hl0⟩ := h.form
  have hle := rows_le h hq (by simp)
  rw [Shows] at h
  rcases h with h | ⟨o, h⟩ | ⟨o, len, cells, h, h2, h3, h4, h5⟩
  · cases h
    exact ⟨(_, _, _), [], [], rfl, Sl.nil _ _ _ _ _, by simp, rfl, fun i w L h => by simp at h, fun L hL => by simp at hL⟩
  · cases h
    exact ⟨(_, _, _), [], [], rfl, Sl.nil _ _ _ _ _, by simp, rfl, fun i w L h => by simp at h, fun L hL => by simp at hL⟩
  · simp only [AVal.sl.injEq] at h
    obtain ⟨rfl, rfl, rfl⟩ := h
    have one : ∀ i, i < l0 → ∃ (p : SlV) (L : List Deed), (cells.drop (i * 1)).take 1 = encS p ∧ Deeds M p.1 p.2.1 p.2.2 L ∧ L.length ≤ 1048576 ∧ ∀ d ∈ L, DeedOk d ∧ d.2.2.length ≤ 1048576 := by
      intro i hi
      have := h5 i hi
      simp only [ShowsR] at this
      obtain ⟨v0, w0, e0, hb0, rfl⟩ := this
      obtain ⟨a1, l1, c1, rfl, hl1⟩ := hb0.form
      have hl1' := rows_le hb0 hq (by simp)
      obtain ⟨L, hd, hall⟩ := deeds_of (fun i hi => hb0.row hi) hq
      have hlen := hd.len
      exact ⟨(a1, l1, c1), L, e0, hd, by omega, hall⟩
    have all : ∀ n, n ≤ l0 → ∃ (xs : List SlV) (scr : List (List Deed)), xs.length = n ∧ cells.take (n * 1) = xs.flatMap encS ∧ xs.length = scr.length ∧ (∀ (i : Nat) (w : SlV) (L : List Deed), xs[i]? = some w → scr[i]? = some L → Deeds M w.1 w.2.1 w.2.2 L) ∧ ∀ L ∈ scr, L.length ≤ 1048576 ∧ ∀ d ∈ L, DeedOk d ∧ d.2.2.length ≤ 1048576 := by
      intro n
      induction n with
      | zero => exact fun _ => ⟨[], [], rfl, by simp, rfl, fun i w L h => by simp at h, fun L hL => by simp at hL⟩
      | succ n ih =>
        intro hn
        obtain ⟨xs, scr, e1, e2, e3, e4, e5⟩ := ih (by omega)
        obtain ⟨p, L, f1, f2, f3⟩ := one n (by omega)
        refine ⟨xs ++ [p], scr ++ [L], by simp [e1], ?_, by simp [e3], fun i w L' h1 h2 => ?_, fun L' hL => ?_⟩
        · rw [Nat.add_mul, Nat.one_mul, List.take_add, e2, f1]; simp [List.flatMap_append]
        · by_cases e : i < xs.length
          · rw [List.getElem?_append_left e] at h1
            rw [List.getElem?_append_left (by omega)] at h2
            exact e4 i w L' h1 h2
          · rw [List.getElem?_append_right (by omega)] at h1
            rw [List.getElem?_append_right (by omega)] at h2
            have e0 : i - xs.length = 0 := by
              have := (List.getElem?_eq_some_iff.1 h1).1
              simp at this; omega
            rw [e0] at h1
            rw [show i - scr.length = 0 by omega] at h2
            simp only [List.getElem?_cons_zero, Option.some.injEq] at h1 h2
            subst h1 h2; exact f2
        · rcases List.mem_append.1 hL with hq | hq
          · exact e5 L' hq
          · obtain rfl : L' = L := by simpa using hq
            exact f3
    obtain ⟨xs, scr, e1, e2, e3, e4, e5⟩ := all l0 (Nat.le_refl _)
    have hc : cells.length = l0 * 1 := by simpa using h3
    rw [← hc, List.take_length] at e2
    refine ⟨(_, _, _), xs, scr, rfl, ?_, hle, e3, e4, e5⟩
    rw [e2] at h2
    have := Sl.whole (c := .unk 0) encS1 h2 (by simp) rfl
    rwa [e1] at this
end
def encF (v : SlV) : List AVal := [.ifc (some 116) (.agg [.sl v.1 v.2.1 v.2.2])]
theorem encF1 : Enc 1 encF := fun _ => rfl
section
variable {M0 M M' : Mem} {role role' : Nat → Rj} {hs : List Nat} {cur cur' : List (Option Nat)} {gs gs' : List Gp} {ds ds' : List Dt} {h i g N : Nat} {d : Dt} {hd s : Nat} {tabs : List (List Pr)} {scr : List (List Deed)} {cl : List (Int × List Int)} {to : Int}
theorem Helpers_C {a : Option (Nat × Nat)} {l : Nat} {c : Cap} {dvs : List SlV} (h : Sl M 1 encS a l c dvs) (hl : l ≤ 1048576) : ∃ (M' : Mem) (fv : SlV), C 21 [.sl a l c] M = some (.sl fv.1 fv.2.1 fv.2.2, M') ∧ M.Upto M' ∧ Sl M' 1 encF fv.1 fv.2.1 fv.2.2 dvs := by
  have hE := p21_0_eq C prog.meth a l c M
  have hdl := h.2
  have loop : ∀ (d i : Nat) (Mx : Mem) (fv : SlV), i + d = l → M.Upto Mx → Tail Mx 1 encF fv.1 fv.2.1 fv.2.2 (dvs.take i) → (∀ o ∈ fpOf fv.1, M.n ≤ o ∧ o < Mx.n) → ∃ (M' : Mem) (fv' : SlV), p21_1 C prog.meth a l c fv.1 fv.2.1 fv.2.2 (i : Int) Mx = some (.sl fv'.1 fv'.2.1 fv'.2.2, M') ∧ M.Upto M' ∧ Sl M' 1 encF fv'.1 fv'.2.1 fv'.2.2 dvs := by
    intro d
    induction d with
    | zero =>
      intro i Mx fv hi hu ht _
      have hF := p21_1_eq C prog.meth a l c fv.1 fv.2.1 fv.2.2 (i : Int) Mx
      have q : ¬ ((i : Int) < (l : Int)) := by omega
      simp only [q, decide_false, cond_false] at hF
      rw [List.take_of_length_le (by omega)] at ht
      exact ⟨Mx, fv, hF, hu, ht.sl⟩
    | succ d ih =>
      intro i Mx fv hi hu ht hfp
      have hF := p21_1_eq C prog.meth a l c fv.1 fv.2.1 fv.2.2 (i : Int) Mx
      have q : ((i : Int) < (l : Int)) := by omega
      have k0 : (0 : Int) ≤ (i : Int) := by omega
      have k1 : Nat.blt i l = true := Mem.blt_iff.2 (by omega)
      have w1 : IntKind.wrap .i64 ((i : Int) + 1) = ((i + 1 : Nat) : Int) := by rw [wrap_i64 (by omega) (by omega)]; rfl
      obtain ⟨p, hp, hv⟩ := (h.upto encS1 (by omega) hu).get encS1 (by omega) (i := i) (by omega)
      have v0 : Mx.ldL p.1 (p.2 + i * 1) = some (dvs[i]'(by omega)) := by
        have := hv 0 (by omega)
        rw [Nat.add_zero] at this
        unfold Mem.ldL
        rw [this]; rfl
      have htl := ht.length
      rw [List.length_take, Nat.min_eq_left (by omega)] at htl
      obtain ⟨M3, k3, t3, n3, b3, g3⟩ := Tail.push (bytes := 16) (y := dvs[i]'(by omega)) (cs := [.ifc (some 116) (.agg [.sl (dvs[i]'(by omega)).1 (dvs[i]'(by omega)).2.1 (dvs[i]'(by omega)).2.2])]) ht encF1 (by omega) rfl (by omega) (fun o ho => (hfp o ho).2)
      simp only [int?_int, rvs, Int.reduceBEq, Int.reduceBNe, Int.cast_ofNat_Int, q, k0, k1, Int.toNat_natCast, hp, v0, w1] at hF
      rw [k3] at hF
      have hun := hu.1
      obtain ⟨M', fv', r1, r2, r3⟩ := ih (i + 1) M3 (some (Mx.n + 1, 0), fv.2.1 + 1, .unk 0) (by omega) ⟨by omega, fun o ho => by rw [b3.2 o (by omega) (fun e => by have := (hfp o e).1; omega), hu.2 o ho]⟩ (by
        rw [List.take_add_one, List.getElem?_eq_getElem (by omega)]; exact t3) (fun o ho => by
        simp only [fpOf, List.mem_singleton] at ho
        subst ho; omega)
      exact ⟨M', fv', hF.trans r1, r2, r3⟩
  obtain ⟨M', fv', r1, r2, r3⟩ := loop l 0 M (none, 0, .known 0) (by omega) (Mem.Upto.refl _) (Tail.nil _ _ _) (fun o ho => by simp [fpOf] at ho)
  exact ⟨M', fv', c21 (hE.trans r1), r2, r3⟩
theorem CloneF_C {a : Option (Nat × Nat)} {l : Nat} {c : Cap} {dvs : List SlV} (h : Sl M 1 encF a l c dvs) (hl : l ≤ 2 ^ 40) :
    ∃ (M' : Mem) (fv : SlV), C 41 [.sl a l c] M = some (.sl fv.1 fv.2.1 fv.2.2, M') ∧ M.Upto M' ∧ fv.2.1 = l ∧ (0 < l → ∃ o, fv.1 = some (o, 0) ∧ fv.2.2 = .unk 0 ∧ M'.get o = some ⟨dvs.flatMap encF, .grow 1⟩ ∧ M.n ≤ o) := by
  have hE := p41_0_eq C prog.meth a l c M
  have hxl := h.2
  cases a with
  | none =>
    have h0 : l = 0 := by
      by_cases h0 : 0 < l
      · obtain ⟨p, hp, _⟩ := h.get encF1 (by omega) h0
        have := (slPtr_some hp).1; cases this
      · omega
    subst h0
    simp only [Option.isNone_none, cond_true] at hE
    exact ⟨M, (none, 0, .known 0), c41 hE, Mem.Upto.refl M, rfl, fun h => by omega⟩
  | some p =>
    simp only [Option.isNone_some, cond_false] at hE
    obtain ⟨M1, e1, g1, u1, n1⟩ := alloc_at M ⟨[], .fixed⟩
    rw [e1] at hE
    by_cases h0 : 0 < l
    · have h1 := h.upto encF1 (by omega) u1
      rw [appK_more (xs := []) rfl h1.1 (by omega) (by omega)] at hE
      obtain ⟨M2, e2, g2, u2, n2⟩ := alloc_at M1 ⟨[] ++ dvs.flatMap encF, .grow 1⟩
      rw [e2] at hE
      exact ⟨M2, (some (M1.n, 0), 0 + l, .unk 0), c41 hE, u1.trans u2, by simp, fun _ => ⟨M1.n, rfl, rfl, by rw [List.nil_append] at g2; exact g2, by omega⟩⟩
    · obtain rfl : l = 0 := by omega
      rw [appK_none (Nat.le_refl 0)] at hE
      exact ⟨M1, (some (M.n, 0), 0, .known 0), c41 hE, u1, rfl, fun h => by omega⟩
theorem CloneT_C {a : Option (Nat × Nat)} {l : Nat} {c : Cap} {xs : List Pr} (h : Sl M 2 encP a l c xs) (hl : l ≤ 2 ^ 43) :
    ∃ (M' : Mem) (w : SlV), C 43 [.sl a l c] M = some (.sl w.1 w.2.1 w.2.2, M') ∧ M.Upto M' ∧ Sl M' 2 encP w.1 w.2.1 w.2.2 xs ∧ (∀ o ∈ fpS w, M.n ≤ o ∧ o < M'.n) := by
  have hE := p43_0_eq C prog.meth a l c M
  have hxl := h.2
  cases a with
  | none =>
    have h0 : l = 0 := by
      by_cases h0 : 0 < l
      · obtain ⟨p, hp, _⟩ := h.get encP2 (by omega) h0
        have := (slPtr_some hp).1; cases this
      · omega
    subst h0
    have hx0 := h.zero
    subst hx0
    simp only [Option.isNone_none, cond_true] at hE
    exact ⟨M, (none, 0, .known 0), c43 hE, Mem.Upto.refl M, Sl.nil _ _ _ _ _, fun o ho => by simp [fpS] at ho⟩
  | some p =>
    simp only [Option.isNone_some, cond_false] at hE
    obtain ⟨M1, e1, g1, u1, n1⟩ := alloc_at M ⟨[], .fixed⟩
    rw [e1] at hE
    by_cases h0 : 0 < l
    · have h1 := h.upto encP2 (by omega) u1
      rw [appK_more (xs := []) rfl h1.1 (by omega) (by omega)] at hE
      obtain ⟨M2, e2, g2, u2, n2⟩ := alloc_at M1 ⟨[] ++ xs.flatMap encP, .grow 2⟩
      rw [e2] at hE
      rw [List.nil_append] at g2
      have hw := Sl.whole (c := .unk 0) encP2 g2 (by simp) rfl
      rw [hxl] at hw
      exact ⟨M2, (some (M1.n, 0), l, .unk 0), by have := c43 hE; rwa [Nat.zero_add] at this, u1.trans u2, hw, fun o ho => by
        unfold fpS at ho
        rw [if_neg (by simp only; omega)] at ho
        simp only [fpOf, List.mem_singleton] at ho
        subst ho; omega⟩
    · obtain rfl : l = 0 := by omega
      have hx0 := h.zero
      subst hx0
      rw [appK_none (Nat.le_refl 0)] at hE
      exact ⟨M1, (some (M.n, 0), 0, .known 0), c43 hE, u1, Sl.nil _ _ _ _ _, fun o ho => by simp [fpS] at ho⟩
theorem Sl.fp {α : Type} {s : Nat} {enc : α → List AVal} {w : SlV} {xs : List α} (h : Sl M s enc w.1 w.2.1 w.2.2 xs) (hg : ∀ o ∈ fpS w, M'.get o = M.get o) : Sl M' s enc w.1 w.2.1 w.2.2 xs := by
  by_cases h0 : w.2.1 = 0
  · rw [h0] at h ⊢
    have := h.zero
    subst this
    exact Sl.nil _ _ _ _ _
  · exact h.same (fun p hp => hg p.1 (by unfold fpS; rw [if_neg h0, hp]; simp [fpOf]))
end
end Go.Proofs.Ytidofnpfeibbfaa.M
set_option linter.unusedVariables false
set_option linter.unusedSimpArgs false
set_option linter.unnecessarySimpa false
set_option maxRecDepth 100000
namespace Go.Proofs.Ytidofnpfeibbfaa.M
open Go.Abs Go.RowKit
noncomputable def firstBad : List (List Pr) → Int
  | [] => 0
  | T :: r => if chk T = 0 then firstBad r else chk T
noncomputable def newE (tabs : List (List Pr)) (n : Nat) : Int := if 4 < tabs.length then 3 else if firstBad tabs ≠ 0 then firstBad tabs else if 8 < n then 3 else 0
theorem firstBad_zero : ∀ {tabs : List (List Pr)}, firstBad tabs = 0 → ∀ T ∈ tabs, chk T = 0
  | [], _ => by simp
  | T :: r, h => by
    rw [firstBad] at h
    by_cases e : chk T = 0
    · rw [if_pos e] at h
      intro T' hT
      rcases List.mem_cons.1 hT with rfl | hT
      · exact e
      · exact firstBad_zero h T' hT
    · rw [if_neg e] at h; exact absurd h e
structure Mk (M1 M : Mem) (hd s : Nat) (fv tl : SlV) (vs : List SlV) (Ts : List (List Pr)) : Prop where
  gh : M.get hd = some ⟨[.ptr (some (s, 0)), .sl tl.1 tl.2.1 tl.2.2, .sl fv.1 fv.2.1 fv.2.2, .sl none 0 (.known 0), .int .i64 (-1)], .fixed⟩
  tt : Tail M 1 encS tl.1 tl.2.1 tl.2.2 vs
  tb : Tbs M vs Ts
  ft : ∀ o ∈ fpOf tl.1, hd < o ∧ o < M.n
  fs : ∀ v ∈ vs, ∀ o ∈ fpS v, hd < o ∧ o < M.n ∧ o ∉ fpOf tl.1
  up : M1.n ≤ M.n
  old : ∀ y, y < hd → M.get y = M1.get y
section
variable {M0 M M' : Mem} {role role' : Nat → Rj} {hs : List Nat} {cur cur' : List (Option Nat)} {gs gs' : List Gp} {ds ds' : List Dt} {h i g N : Nat} {d : Dt} {hd s : Nat} {tabs : List (List Pr)} {scr : List (List Deed)} {cl : List (Int × List Int)} {to : Int}
theorem new_loop {M1 : Mem} {ta : Option (Nat × Nat)} {l : Nat} {tc : Cap} {tvs : List SlV} {fa : Option (Nat × Nat)} {fl : Nat} {fc : Cap} {fv : SlV} (hhd : hd < M1.n) (hl : l ≤ 4) (hlen : tabs.length = l)
    (harg : ∀ M, M1.n ≤ M.n → (∀ y, y < hd → M.get y = M1.get y) → Sl M 1 encS ta l tc tvs ∧ Tbs M tvs tabs) (h64 : ∀ T ∈ tabs, T.length ≤ 2 ^ 43) :
    ∀ (d i : Nat) (M : Mem) (tl : SlV) (vs : List SlV), i + d = l → Mk M1 M hd s fv tl vs (tabs.take i) →
      (firstBad (tabs.drop i) ≠ 0 ∧ ∃ M', p15_1 C prog.meth fa fl fc (some (hd, 0)) ta l tc (l : Int) (i : Int) M = some (.tup [.ptr none, .int .i64 (firstBad (tabs.drop i))], M') ∧ M1.n ≤ M'.n ∧ ∀ y, y < hd → M'.get y = M1.get y) ∨
      (firstBad (tabs.drop i) = 0 ∧ ∃ (M' : Mem) (tl' : SlV) (vs' : List SlV), p15_1 C prog.meth fa fl fc (some (hd, 0)) ta l tc (l : Int) (i : Int) M = p15_1 C prog.meth fa fl fc (some (hd, 0)) ta l tc (l : Int) (l : Int) M' ∧ Mk M1 M' hd s fv tl' vs' tabs) := by
  intro d
  induction d with
  | zero =>
    intro i M tl vs hi h
    obtain rfl : i = l := by omega
    rw [List.take_of_length_le (by omega)] at h
    right
    rw [List.drop_eq_nil_of_le (by omega)]
    exact ⟨rfl, M, tl, vs, rfl, h⟩
  | succ d ih =>
    intro i M tl vs hi h
    have hE := p15_1_eq C prog.meth fa fl fc (some (hd, 0)) ta l tc (l : Int) (i : Int) M
    have q : ((i : Int) < (l : Int)) := by omega
    have k0 : (0 : Int) ≤ (i : Int) := by omega
    have k1 : Nat.blt i l = true := Mem.blt_iff.2 (by omega)
    have w1 : IntKind.wrap .i64 ((i : Int) + 1) = ((i + 1 : Nat) : Int) := by rw [wrap_i64 (by omega) (by omega)]; rfl
    obtain ⟨ha, hT⟩ := harg M h.up h.old
    have hal := ha.2
    obtain ⟨p, hp, hv⟩ := ha.get encS1 (by omega) (i := i) (by omega)
    have v0 : M.ldL p.1 (p.2 + i * 1) = some (tvs[i]'(by omega)) := by
      have := hv 0 (by omega)
      rw [Nat.add_zero] at this
      unfold Mem.ldL
      rw [this]; rfl
    have hTi := hT.2 i (tvs[i]'(by omega)) (tabs[i]'(by omega)) (List.getElem?_eq_getElem (by omega)) (List.getElem?_eq_getElem (by omega))
    have dr : tabs.drop i = tabs[i]'(by omega) :: tabs.drop (i + 1) := List.drop_eq_getElem_cons (by omega)
    simp only [int?_int, rvs, Int.reduceBEq, Int.reduceBNe, Int.cast_ofNat_Int, q, k0, k1, Int.toNat_natCast, hp, v0, TCheck_C hTi] at hE
    rw [dr, firstBad]
    by_cases hz : chk (tabs[i]'(by omega)) = 0
    rotate_left
    · have e : (chk (tabs[i]'(by omega)) != 0) = true := by simp [hz]
      simp only [e, cond_true] at hE
      left
      rw [if_neg hz]
      exact ⟨hz, M, hE, h.up, h.old⟩
    rw [if_pos hz]
    have e : (chk (tabs[i]'(by omega)) != 0) = false := by simp [hz]
    have hTl := hTi.2
    obtain ⟨M2, w, k2, u2, sw, fw⟩ := CloneT_C hTi (by have := h64 _ (List.getElem_mem (show i < tabs.length by omega)); omega)
    have gh2 := u2.get h.gh
    have hun := u2.1
    have vl := h.tt.length
    have vT := h.tb.1
    rw [List.length_take, Nat.min_eq_left (by omega)] at vT
    obtain ⟨M3, k3, t3, n3, b3, g3⟩ := Tail.push (bytes := 24) (y := w) (cs := [.sl w.1 w.2.1 w.2.2]) (h.tt.same (M' := M2) (fun o ho => u2.2 o (h.ft o ho).2)) encS1 (by omega) rfl (by omega) (fun o ho => by have := (h.ft o ho).2; omega)
    have gh3 : M3.get hd = _ := (b3.2 hd (by have := h.up; omega) (fun e => by have := (h.ft hd e).1; omega)).trans gh2
    obtain ⟨M4, s4, g4, n4, b4⟩ := st_at (i := 1) (vs := [.sl (some (M2.n + 1, 0)) (tl.2.1 + 1) (.unk 0)]) gh3 (by simp)
    simp only [overL_one, List.set_cons_succ, List.set_cons_zero] at g4
    have st1 : M2.still hd 1 [.sl tl.1 tl.2.1 tl.2.2] = true := still1 (by rw [ld_fix gh2]; rfl)
    obtain ⟨Ma, ea, ga, ua, na⟩ := alloc_at M2 ⟨[.sl w.1 w.2.1 w.2.2], .fixed⟩
    have st2 : (M2.alloc ⟨[.sl w.1 w.2.1 w.2.2], .fixed⟩).still hd 1 [.sl tl.1 tl.2.1 tl.2.2] = true := by
      rw [ea]; exact still1 (by rw [ld_fix (ua.get gh2)]; rfl)
    simp only [e, cond_false, Nat.zero_add, ldL_at h.gh, List.getElem?_cons_zero, List.getElem?_cons_succ, Option.bind_some, AVal.sl?, k2] at hE
    rw [k3] at hE
    simp only [int?_int, rvs, Int.reduceBEq, Int.reduceBNe, Int.cast_ofNat_Int, s4, st1, st2, w1] at hE
    have keep : ∀ o, o < M2.n → hd < o → o ∉ fpOf tl.1 → M4.get o = M2.get o := fun o h1 h2 h3 => by rw [b4.2 o (by omega) (by omega), b3.2 o h1 h3]
    have hMk : Mk M1 M4 hd s fv (some (M2.n + 1, 0), tl.2.1 + 1, .unk 0) (vs ++ [w]) (tabs.take (i + 1)) := by
      refine ⟨g4, t3.same (fun o ho => b4.2 o (by simp only [fpOf, List.mem_singleton] at ho; omega) (by simp only [fpOf, List.mem_singleton] at ho; have := h.up; omega)), ?_, fun o ho => ?_, fun v hv o ho => ?_, by have := h.up; omega, fun y hy => ?_⟩
      · rw [List.take_add_one, List.getElem?_eq_getElem (show i < tabs.length by omega)]
        refine Tbs.snoc ⟨h.tb.1, fun j v T h1 h2 => ?_⟩ (Sl.fp sw (fun o ho => keep o (fw o ho).2 (by have := (fw o ho).1; have := h.up; omega) (fun e => by have := (h.ft o e).2; have := (fw o ho).1; omega)))
        have hm := List.mem_of_getElem? h1
        exact Sl.fp (h.tb.2 j v T h1 h2) (fun o ho => by
          obtain ⟨f1, f2, f3⟩ := h.fs v hm o ho
          rw [keep o (by omega) f1 f3, u2.2 o f2])
      · simp only [fpOf, List.mem_singleton] at ho
        have := h.up
        omega
      · have hnot : o < M2.n → o ∉ fpOf (some (M2.n + 1, 0)) := fun h1 h2 => by simp only [fpOf, List.mem_singleton] at h2; omega
        rcases List.mem_append.1 hv with hv | hv
        · obtain ⟨f1, f2, f3⟩ := h.fs v hv o ho
          exact ⟨f1, by omega, hnot (by omega)⟩
        · obtain rfl : v = w := by simpa using hv
          have := fw o ho
          have := h.up
          exact ⟨by omega, by omega, hnot (by omega)⟩
      · rw [b4.2 y (by have := h.up; omega) (by omega), b3.2 y (by have := h.up; omega) (fun e => by have := (h.ft y e).1; omega), u2.2 y (by have := h.up; omega), h.old y hy]
    rcases ih (i + 1) M4 _ _ (by omega) hMk with ⟨r1, M', r2, r3⟩ | ⟨r1, M', tl', vs', r2, r3⟩
    · exact .inl ⟨r1, M', hE.trans r2, r3⟩
    · exact .inr ⟨r1, M', tl', vs', hE.trans r2, r3⟩
theorem New_C (H : GS false KI M0 M role hs cur gs ds) (s0 : hs[0]? = some s) (hc : cur[0]? = some (some g)) (hd' : ds[g]? = some d) {ta : Option (Nat × Nat)} {l : Nat} {tc : Cap} {tvs : List SlV} (ht : Sl M 1 encS ta l tc tvs) (hT : Tbs M tvs tabs) (h64 : ∀ T ∈ tabs, T.length ≤ 2 ^ 43) (hl : l ≤ 2 ^ 40)
    {fa : Option (Nat × Nat)} {fl : Nat} {fc : Cap} {dvs : List SlV} (hf : Sl M 1 encF fa fl fc dvs) (hfl : fl ≤ 2 ^ 40) (hdl : dvs.length = scr.length) (hdv : ∀ (i : Nat) (w : SlV) (L : List Deed), dvs[i]? = some w → scr[i]? = some L → DS M role w.1 w.2.1 w.2.2 L) (okS : ∀ L ∈ scr, L.length ≤ 1048576 ∧ ∀ d ∈ L, DeedOk d ∧ d.2.2.length ≤ 1048576) :
    ∃ (M' : Mem) (role' : Nat → Rj), M.Upto M' ∧ GS false KI M0 M' role' hs cur gs ds ∧ Fj false role role' M M' ∧
      ((newE tabs scr.length ≠ 0 ∧ C 15 [.ptr (some (s, 0)), .sl ta l tc, .sl fa fl fc] M = some (.tup [.ptr none, .int .i64 (newE tabs scr.length)], M')) ∨
       (newE tabs scr.length = 0 ∧ ∃ hd, C 15 [.ptr (some (s, 0)), .sl ta l tc, .sl fa fl fc] M = some (.tup [.ptr (some (hd, 0)), .int .i64 0], M') ∧ M.n ≤ hd ∧ Hd M0 M' role' hs cur gs ds hd s tabs scr [] (-1))) := by
  have hE := p15_0_eq C prog.meth (some (s, 0)) ta l tc fa fl fc M
  have al := alive0_C H s0 hc hd'
  have hlt : tabs.length = l := by rw [← hT.1]; exact ht.2
  have hfls : fl = scr.length := by rw [← hdl]; exact hf.2.symm
  simp only [int?_int, rvs, Int.reduceBEq, Int.reduceBNe, Int.cast_ofNat_Int, al] at hE
  unfold newE
  by_cases h4 : 4 < tabs.length
  · have q : ((l : Int) > 4) := by omega
    simp only [q, decide_true, cond_true] at hE
    rw [if_pos h4]
    exact ⟨M, role, Mem.Upto.refl M, H, Fj.refl _ _ _, .inl ⟨by decide, c15 hE⟩⟩
  rw [if_neg h4]
  have q : ¬ ((l : Int) > 4) := by omega
  obtain ⟨M1, fv, k1, u1, fvl, fvo⟩ := CloneF_C hf hfl
  obtain ⟨M2, e2, g2, u2, n2⟩ := alloc_at M1 ⟨[.ptr (some (s, 0)), .sl none 0 (.known 0), .sl fv.1 fv.2.1 fv.2.2, .sl none 0 (.known 0), .int .i64 (-1)], .fixed⟩
  simp only [q, decide_false, cond_false, k1, Option.bind_some, AVal.sl?, e2] at hE
  have hn1 := u1.1
  have mk0 : Mk M2 M2 M1.n s fv (none, 0, .known 0) [] (tabs.take 0) := ⟨g2, Tail.nil _ _ _, Tbs.nil _, fun o ho => by simp [fpOf] at ho, fun v hv => by simp at hv, Nat.le_refl _, fun _ _ => rfl⟩
  have harg : ∀ Mx, M2.n ≤ Mx.n → (∀ y, y < M1.n → Mx.get y = M2.get y) → Sl Mx 1 encS ta l tc tvs ∧ Tbs Mx tvs tabs := fun Mx h1 h2 => by
    have hu : M.Upto Mx := ⟨by omega, fun o ho => by rw [h2 o (by omega), u2.2 o (by omega), u1.2 o ho]⟩
    exact ⟨ht.upto encS1 (by omega) hu, hT.upto hu⟩
  have fin : ∀ Mx, M2.n ≤ Mx.n → (∀ y, y < M1.n → Mx.get y = M2.get y) → M.Upto Mx := fun Mx h1 h2 => ⟨by omega, fun o ho => by rw [h2 o (by omega), u2.2 o (by omega), u1.2 o ho]⟩
  rcases new_loop (fa := fa) (fl := fl) (fc := fc) (s := s) (fv := fv) (hd := M1.n) (by omega) (by omega) hlt harg h64 l 0 M2 (none, 0, .known 0) [] (by omega) mk0 with ⟨r1, M', r2, r3, r4⟩ | ⟨r1, M', tl, vs, r2, mk⟩
  · rw [List.drop_zero] at r1 r2
    rw [if_pos r1]
    have hu := fin M' r3 r4
    exact ⟨M', _, hu, H.extK 0 hu, Fj.extK 0 role hu, .inl ⟨r1, c15 (hE.trans r2)⟩⟩
  · rw [List.drop_zero] at r1
    rw [if_neg (by rw [r1]; decide)]
    have hu := fin M' mk.up mk.old
    have hF := p15_1_eq C prog.meth fa fl fc (some (M1.n, 0)) ta l tc (l : Int) (l : Int) M'
    have q2 : ¬ ((l : Int) < (l : Int)) := by omega
    simp only [q2, decide_false, cond_false] at hF
    by_cases h8 : 8 < scr.length
    · have q3 : ((fl : Int) > 8) := by omega
      simp only [q3, decide_true, cond_true] at hF
      rw [if_pos h8]
      exact ⟨M', _, hu, H.extK 0 hu, Fj.extK 0 role hu, .inl ⟨by decide, c15 (hE.trans (r2.trans hF))⟩⟩
    have q3 : ¬ ((fl : Int) > 8) := by omega
    simp only [q3, decide_false, cond_false] at hF
    rw [if_neg h8]
    let R : Nat → Rj := fun y => if y < M.n then role y else if y = M1.n then .other 1 else .other 4
    have rl : ∀ y, y < M.n → R y = role y := fun y hy => if_pos hy
    have r1' : R M1.n = .other 1 := by
      show (if M1.n < M.n then role M1.n else if M1.n = M1.n then Rj.other 1 else .other 4) = _
      rw [if_neg (by omega), if_pos rfl]
    have r4' : ∀ y, M.n ≤ y → y ≠ M1.n → R y = .other 4 := fun y h1 h2 => by
      show (if y < M.n then role y else if y = M1.n then Rj.other 1 else .other 4) = _
      rw [if_neg (by omega), if_neg h2]
    have F : Fj false role R M M' := ⟨hu.1, fun y hy _ => hu.2 y hy, rl⟩
    have I' : GS false KI M0 M' R hs cur gs ds := H.frame (H.up.trans hu) (fun y hy _ => hu.2 y hy) rl
    have up0 := H.up.1
    refine ⟨M', R, hu, I', F, .inr ⟨rfl, M1.n, c15 (hE.trans (r2.trans hF)), hn1, ⟨I', s0, r1', by omega, ⟨tl, fv, (none, 0, .known 0), [], mk.gh, ?_, ⟨by omega, fun k hk => ?_⟩, Tail.nil _ _ _, fun o ho => by simp [fpOf] at ho, fun _ _ _ => rfl⟩, ⟨by omega, firstBad_zero r1⟩, ⟨by omega, okS⟩, by simp⟩⟩⟩
    · intro M5 h5 hg5
      refine ⟨vs, mk.tt.sl.same (fun p hp => hg5 p.1 ?_ ?_), mk.tb.1, fun j v T h1 h2 => Sl.fp (mk.tb.2 j v T h1 h2) (fun o ho => ?_)⟩
      · exact (mk.ft p.1 (by rw [hp]; simp [fpOf])).2
      · have := (mk.ft p.1 (by rw [hp]; simp [fpOf])).1
        exact r4' _ (by omega) (by omega)
      · obtain ⟨f1, f2, f3⟩ := mk.fs v (List.mem_of_getElem? h1) o ho
        exact hg5 o f2 (r4' o (by omega) (by omega))
    · have hk' : k < dvs.length := by omega
      have hds := hdv k (dvs[k]'hk') (scr[k]'hk) (List.getElem?_eq_getElem hk') (List.getElem?_eq_getElem hk)
      obtain ⟨o, o1, o2, o3, o4⟩ := fvo (by omega)
      have ho' : o < M1.n := Mem.get_lt o3
      refine ⟨(o, 0), dvs[k]'hk', by rw [o1, o2]; rfl, fun M5 h5 hg5 => ?_, hds.fo F.fo⟩
      have g5 : M5.get o = some ⟨dvs.flatMap encF, .grow 1⟩ := by
        rw [hg5 o (by have := mk.up; omega) (r4' o o4 (by omega)), mk.old o ho', u2.2 o ho']; exact o3
      have hw := Sl.whole (c := .unk 0) encF1 g5 (by simp) rfl
      obtain ⟨p, hp, hv⟩ := hw.get encF1 (by omega) (i := k) (by omega)
      obtain rfl : (o, 0) = p := Option.some.inj hp
      have := hv 0 (by omega)
      rw [Nat.add_zero] at this
      unfold Mem.ldN
      simp only
      rw [this]; rfl
end
end Go.Proofs.Ytidofnpfeibbfaa.M
set_option linter.unusedVariables false
set_option linter.unusedSimpArgs false
set_option linter.unnecessarySimpa false
set_option maxRecDepth 100000
namespace Go.Proofs.Ytidofnpfeibbfaa.M
open Go.Abs Go.RowKit
section
variable {M0 M M' : Mem} {role role' : Nat → Rj} {hs : List Nat} {cur cur' : List (Option Nat)} {gs gs' : List Gp} {ds ds' : List Dt} {h i g N : Nat} {d : Dt} {hd s : Nat} {tabs : List (List Pr)} {scr : List (List Deed)} {cl : List (Int × List Int)} {to : Int}
theorem Cps.at {vs : List (Int × SlV)} (h : Cps M vs cl) {i : Nat} (hi : i < cl.length) : ∃ (hv : i < vs.length), vs[i].1 = cl[i].1 ∧ M.bytesAt vs[i].2 = some cl[i].2 := by
  have hl := h.length
  have hv : i < vs.length := by omega
  have := congrArg (fun l => l[i]?) h
  simp only [List.getElem?_map, List.getElem?_eq_getElem hv, List.getElem?_eq_getElem hi, Option.map_some, Option.some.injEq, Prod.mk.injEq] at this
  exact ⟨hv, this⟩
theorem Cps.same {vs : List (Int × SlV)} (h : Cps M vs cl) (hg : ∀ v ∈ vs, ∀ o ∈ fpS v.2, M'.get o = M.get o) : Cps M' vs cl := by
  unfold Cps at *
  rw [← h]
  exact List.map_congr_left fun v hv => by rw [bytesAt_same (hg v hv)]
theorem Cps.lt {vs : List (Int × SlV)} (h : Cps M vs cl) : ∀ v ∈ vs, ∀ o ∈ fpS v.2, o < M.n := fun v hv o ho => by
  obtain ⟨i, hi, rfl⟩ := List.mem_iff_getElem.1 hv
  obtain ⟨_, _, e⟩ := h.at (i := i) (by rw [← h.length]; exact hi)
  exact bytesAt_lt e o ho
theorem Clones_C (H : Hd M0 M role hs cur gs ds hd s tabs scr cl to) (h47 : ∀ c ∈ cl, c.2.length ≤ 2 ^ 47) : ∃ (M' : Mem) (ov : SlV) (vs : List (Int × SlV)), C 23 [.ptr (some (hd, 0))] M = some (.sl ov.1 ov.2.1 ov.2.2, M') ∧ M.Upto M' ∧ Sl M' 2 encC ov.1 ov.2.1 ov.2.2 vs ∧ Cps M' vs cl := by
  have hE := p23_0_eq C prog.meth (some (hd, 0)) M
  obtain ⟨tv, fv, cv, vs, gh, t4, f4, tl, hl, c3⟩ := H.obj
  have hth := p46_0_eq C prog.meth (some (hd, 0)) M
  simp only [int?_int, rvs, Int.reduceBEq, Int.reduceBNe, Int.cast_ofNat_Int, Nat.zero_add, ldP_at gh] at hth
  simp only [c46 hth, int?_int, rvs, Int.reduceBEq, Int.reduceBNe, Int.cast_ofNat_Int, Nat.zero_add, ldL_at gh] at hE
  have c0 := c3.now
  have hlen : cv.2.1 = cl.length := by rw [← tl.length]; exact c0.length
  have hc8 := H.okC
  have loop : ∀ (d i : Nat) (Mx : Mem) (ov : SlV) (ws : List (Int × SlV)), i + d = cl.length → M.Upto Mx → Tail Mx 2 encC ov.1 ov.2.1 ov.2.2 ws → Cps Mx ws (cl.take i) → (∀ o ∈ fpOf ov.1, M.n ≤ o ∧ o < Mx.n) → (∀ v ∈ ws, ∀ o ∈ fpS v.2, M.n ≤ o ∧ o ∉ fpOf ov.1) →
      ∃ (M' : Mem) (ov' : SlV) (ws' : List (Int × SlV)), p23_1 C prog.meth ov.1 ov.2.1 ov.2.2 cv.1 cv.2.1 cv.2.2 (cv.2.1 : Int) (i : Int) Mx = some (.sl ov'.1 ov'.2.1 ov'.2.2, M') ∧ M.Upto M' ∧ Sl M' 2 encC ov'.1 ov'.2.1 ov'.2.2 ws' ∧ Cps M' ws' cl := by
    intro d
    induction d with
    | zero =>
      intro i Mx ov ws hi hu ht hc _ _
      have hF := p23_1_eq C prog.meth ov.1 ov.2.1 ov.2.2 cv.1 cv.2.1 cv.2.2 (cv.2.1 : Int) (i : Int) Mx
      have q : ¬ ((i : Int) < (cv.2.1 : Int)) := by omega
      simp only [q, decide_false, cond_false] at hF
      rw [List.take_of_length_le (by omega)] at hc
      exact ⟨Mx, ov, ws, hF, hu, ht.sl, hc⟩
    | succ d ih =>
      intro i Mx ov ws hi hu ht hc hfp hws
      have hF := p23_1_eq C prog.meth ov.1 ov.2.1 ov.2.2 cv.1 cv.2.1 cv.2.2 (cv.2.1 : Int) (i : Int) Mx
      have q : ((i : Int) < (cv.2.1 : Int)) := by omega
      have k0 : (0 : Int) ≤ (i : Int) := by omega
      have k1 : Nat.blt i cv.2.1 = true := Mem.blt_iff.2 (by omega)
      have w1 : IntKind.wrap .i64 ((i : Int) + 1) = ((i + 1 : Nat) : Int) := by rw [wrap_i64 (by omega) (by omega)]; rfl
      obtain ⟨hv, e1, e2⟩ := c0.at (i := i) (by omega)
      obtain ⟨p, hp, hpv⟩ := (tl.sl.upto encC2 (by omega) hu).get encC2 (by omega) (i := i) (by omega)
      have v0 : Mx.ldI .i64 p.1 (p.2 + i * 2) = some (vs[i].1) := ldI_ld.2 (by have := hpv 0 (by omega); rw [Nat.add_zero] at this; exact this)
      have v1 : Mx.ldL p.1 (p.2 + i * 2 + 1) = some (vs[i].2) := by
        have := hpv 1 (by omega)
        rw [← Nat.add_assoc] at this
        unfold Mem.ldL
        rw [this]; rfl
      have b0 : Mx.bytesAt vs[i].2 = some cl[i].2 := bytesAt_upto e2 hu
      obtain ⟨Ma, ea, ga, ua, na⟩ := alloc_at Mx ⟨[.int .i64 0, .sl none 0 (.known 0)], .fixed⟩
      obtain ⟨Mb, sb, gb, nb, bb⟩ := st_at (i := 0) (vs := [.int .i64 vs[i].1, .sl vs[i].2.1 vs[i].2.2.1 vs[i].2.2.2]) ga (by simp)
      simp only [overL] at gb
      have ub : Mx.Upto Mb := ⟨by omega, fun o ho => by rw [bb.2 o (by omega) (by omega), ua.2 o ho]⟩
      have bB : Mb.bytesAt vs[i].2 = some cl[i].2 := bytesAt_upto b0 ub
      have hlt47 := h47 _ (List.getElem_mem (show i < cl.length by omega))
      have hbl := ints_length (show Mb.ints .u8 vs[i].2.1 vs[i].2.2.1 vs[i].2.2.2 = some cl[i].2 from bB)
      obtain ⟨Mc, w, kc, uc, ow, fw, _⟩ := Clone_F bB (by omega)
      have gc := uc.get gb
      have st : Mc.still Mx.n 0 [.int .i64 vs[i].1] = true := still1 (by rw [ld_fix gc]; rfl)
      have hl2 := ht.length
      have hcl := hc.length
      rw [List.length_take, Nat.min_eq_left (by omega)] at hcl
      have n1 := ub.1
      have n2 := uc.1
      obtain ⟨Md, kd, td, nd, bd, gd⟩ := Tail.push (bytes := 32) (y := ((vs[i].1, w) : Int × SlV)) (cs := [.int .i64 vs[i].1, .sl w.1 w.2.1 w.2.2]) (ht.same (M' := Mc) (fun o ho => by rw [uc.2 o (by have := (hfp o ho).2; omega), ub.2 o (hfp o ho).2])) encC2 (by omega) rfl (by omega) (fun o ho => by have := (hfp o ho).2; omega)
      have l0 : Mb.ldI .i64 Mx.n 0 = some vs[i].1 := by rw [ldI_at gb]; simp
      have l1 : Mb.ldL Mx.n 1 = some vs[i].2 := by rw [ldL_at gb]; rfl
      simp only [int?_int, rvs, Int.reduceBEq, Int.reduceBNe, Int.cast_ofNat_Int, q, k0, k1, Int.toNat_natCast, hp, v0, v1, ea, sb, l0, l1, kc] at hF
      rw [kd] at hF
      simp only [int?_int, rvs, Int.reduceBEq, Int.reduceBNe, Int.cast_ofNat_Int, st, w1] at hF
      have hu0 := hu.1
      have uM : M.Upto Md := ⟨by omega, fun o ho => by rw [bd.2 o (by omega) (fun e => by have := (hfp o e).1; omega), uc.2 o (by omega), ub.2 o (by omega), hu.2 o ho]⟩
      have keep : ∀ o, o < Mc.n → o ∉ fpOf ov.1 → Md.get o = Mc.get o := fun o h1 h2 => bd.2 o h1 h2
      have hwl : ∀ o ∈ fpS w, o < Mc.n := bytesAt_lt (show Mc.bytesAt w = some cl[i].2 from ow.ints)
      have cN : Cps Md (ws ++ [((vs[i].1, w) : Int × SlV)]) (cl.take (i + 1)) := by
        rw [List.take_add_one, List.getElem?_eq_getElem (show i < cl.length by omega)]
        have e3 : cl[i] = (vs[i].1, cl[i].2) := by rw [e1]
        rw [e3]
        refine Cps.snoc (hc.same (fun v hv o ho => ?_)) ?_
        · have h1 := hc.lt v hv o ho
          have h2 := (hws v hv o ho).2
          rw [keep o (by omega) h2, uc.2 o (by omega), ub.2 o h1]
        · rw [bytesAt_same (fun o ho => keep o (hwl o ho) (fun e => by have := fw o ho; have := (hfp o e).2; omega))]
          exact ow.ints
      obtain ⟨M', ov', ws', r1, r2, r3, r4⟩ := ih (i + 1) Md (some (Mc.n + 1, 0), ov.2.1 + 1, .unk 0) _ (by omega) uM td cN (fun o ho => by
        simp only [fpOf, List.mem_singleton] at ho
        subst ho; omega) (fun v hv o ho => by
        have hn : o < Mc.n → o ∉ fpOf (some (Mc.n + 1, 0)) := fun h1 h2 => by simp only [fpOf, List.mem_singleton] at h2; omega
        rcases List.mem_append.1 hv with hv | hv
        · have h1 := hc.lt v hv o ho
          exact ⟨(hws v hv o ho).1, hn (by omega)⟩
        · obtain rfl : v = ((vs[i].1, w) : Int × SlV) := by simpa using hv
          exact ⟨by have := fw o ho; omega, hn (hwl o ho)⟩)
      exact ⟨M', ov', ws', hF.trans r1, r2, r3, r4⟩
  obtain ⟨M', ov', ws', r1, r2, r3, r4⟩ := loop cl.length 0 M (none, 0, .known 0) [] (by omega) (Mem.Upto.refl _) (Tail.nil _ _ _) rfl (fun o ho => by simp [fpOf] at ho) (fun v hv => by simp at hv)
  exact ⟨M', ov', ws', c23 (hE.trans r1), r2, r3, r4⟩
end
theorem callA_err (tabs : List (List Pr)) (scr : List (List Deed)) (σ : HSt) (id : Int) (x y z : Nat) : (callA tabs scr σ id x y z).2.1 = 0 ∨ (callA tabs scr σ id x y z).2.1 = 180 := by
  unfold callA; split
  · exact .inr rfl
  · exact .inl rfl
theorem callA_same {tabs : List (List Pr)} {scr : List (List Deed)} {σ : HSt} {id : Int} {x y z : Nat} (h : (callA tabs scr σ id x y z).2.1 ≠ 0 ∨ id = 1 ∨ (6 ≤ id ∧ id ≤ 8)) : (callA tabs scr σ id x y z).2.2.B = σ.B := by
  unfold callA at *
  split
  · rfl
  · rename_i hn
    rw [if_neg hn] at h
    rcases h with h | h | h
    · exact absurd rfl h
    · subst h; rfl
    · have : id = 6 ∨ id = 7 ∨ id = 8 := by omega
      rcases this with rfl | rfl | rfl
      · show (helpA tabs scr σ 6 x y z).2.B = σ.B
        have e : helpA tabs scr σ 6 x y z = (if x < 8 ∧ σ.cl.length < 8 then (1, { σ with cl := σ.cl ++ [((x : Int), σ.B)] }) else (0, σ)) := rfl
        rw [e]; split <;> rfl
      · show (helpA tabs scr σ 7 x y z).2.B = σ.B
        have e : helpA tabs scr σ 7 x y z = (if x < 8 then (1, { σ with to := (x : Int) }) else (0, σ)) := rfl
        rw [e]; split <;> rfl
      · rfl
theorem callA_wf {tabs : List (List Pr)} {scr : List (List Deed)} {σ : HSt} (h : wfB σ.B) (hS : ∀ L ∈ scr, ∀ d ∈ L, DeedOk d) (id : Int) (x y z : Nat) : wfB (callA tabs scr σ id x y z).2.2.B := by
  unfold callA; split
  · exact h
  · exact helpA_wf h hS _ _ _ _
theorem helpA_cl {tabs : List (List Pr)} {scr : List (List Deed)} {σ : HSt} {id : Int} {x y z : Nat} (h : id ≠ 6) : (helpA tabs scr σ id x y z).2.cl = σ.cl := by
  unfold helpA
  repeat' split
  all_goals first | rfl | (exfalso; omega)
theorem callA_cl (tabs : List (List Pr)) (scr : List (List Deed)) (σ : HSt) (id : Int) (x y z : Nat) :
    (id = 6 ∧ (callA tabs scr σ id x y z).1 = 1 ∧ x < 8 ∧ (callA tabs scr σ id x y z).2.2.cl = σ.cl ++ [((x : Int), σ.B)]) ∨ (¬ (id = 6 ∧ (callA tabs scr σ id x y z).1 = 1) ∧ (callA tabs scr σ id x y z).2.2.cl = σ.cl) := by
  unfold callA
  split
  · exact .inr ⟨fun h => by simp at h, rfl⟩
  · by_cases h6 : id = 6
    · subst h6
      have e : helpA tabs scr σ 6 x y z = (if x < 8 ∧ σ.cl.length < 8 then (1, { σ with cl := σ.cl ++ [((x : Int), σ.B)] }) else (0, σ)) := rfl
      by_cases h : x < 8 ∧ σ.cl.length < 8
      · rw [if_pos h] at e; rw [e]; exact .inl ⟨rfl, rfl, h.1, rfl⟩
      · rw [if_neg h] at e; rw [e]; exact .inr ⟨fun h => by have := h.2; simp at this, rfl⟩
    · exact .inr ⟨fun h => h6 h.1, helpA_cl h6⟩
end Go.Proofs.Ytidofnpfeibbfaa.M
set_option linter.unusedVariables false
set_option linter.unusedSimpArgs false
set_option linter.unnecessarySimpa false
set_option maxRecDepth 100000
namespace Go.Proofs.Ytidofnpfeibbfaa.M
open Go.Abs Go.RowKit
section
variable {M0 M M' : Mem} {role role' : Nat → Rj} {hs : List Nat} {cur cur' : List (Option Nat)} {gs gs' : List Gp} {ds ds' : List Dt} {h i g N : Nat} {d : Dt} {hd s ot : Nat} {tabs : List (List Pr)} {scr : List (List Deed)} {cl : List (Int × List Int)} {to : Int} {B P : List Int} {wl : List (List Int)} {wv : SlV}
theorem Hd.frame (H : Hd M0 M role hs cur gs ds hd s tabs scr cl to) (hn : M.n ≤ M'.n) (hu : M0.Upto M') (hg : ∀ y, y < M.n → role y ≠ .other 5 → M'.get y = M.get y) (hr : ∀ y, y < M.n → role' y = role y) : Hd M0 M' role' hs cur gs ds hd s tabs scr cl to := by
  obtain ⟨tv, fv, cv, vs, gh, t4, f4, tl, hl, c3⟩ := H.obj
  have hlt := Mem.get_lt gh
  have st : ∀ k, k ≠ 5 → ∀ P : Mem → Prop, Sta k M role P → Sta k M' role' P := fun k hk P h => h.next hn (fun o ho hro => hg o ho (by rw [hro]; intro e; cases e; exact hk rfl)) hr
  have I' : GS false KI M0 M' role' hs cur gs ds := H.I.frame hu (fun y hy hs => hg y hy (fun e => by rw [e] at hs; cases hs)) hr
  have ds4 : ∀ {a l c L}, DS M role a l c L → DS M' role' a l c L := fun h => ⟨h.len, fun i hi => by
    obtain ⟨p, v, h1, h2⟩ := h.at_ i hi
    exact ⟨p, v, h1, st 4 (by decide) _ h2⟩⟩
  exact ⟨I', H.s0, (hr hd hlt).trans H.rh, H.hM, ⟨tv, fv, cv, vs, (hg hd hlt (by rw [H.rh]; exact nofun)).trans gh, st 4 (by decide) _ t4, ⟨f4.len, fun k hk => by
    obtain ⟨p, v, h1, h2, h3⟩ := f4.at_ k hk
    exact ⟨p, v, h1, st 4 (by decide) _ h2, ds4 h3⟩⟩, tl.same (fun o ho => hg o (hl o ho).1 (by rw [(hl o ho).2.1]; exact nofun)), fun o ho => ⟨by have := (hl o ho).1; omega, (hr o (hl o ho).1).trans (hl o ho).2.1, (hl o ho).2.2⟩, st 3 (by decide) _ c3⟩, H.okT, H.okS, H.okC⟩
structure W6 (M0 M : Mem) (role : Nat → Rj) (hs : List Nat) (cur : List (Option Nat)) (gs : List Gp) (ds : List Dt) (hd s ot : Nat) (tabs : List (List Pr)) (scr : List (List Deed)) (cl : List (Int × List Int)) (to : Int) (B P : List Int) (wl : List (List Int)) (wv : SlV) (N : Nat) : Prop where
  H : Hd M0 M role hs cur gs ds hd s tabs scr cl to
  h1 : hs[1]? = some ot
  me : ∃ g d, cur[0]? = some (some g) ∧ ds[g]? = some d ∧ d.B = B ∧ d.mv ≤ N
  oth : ∃ c, cur[1]? = some c ∧ bytesO ds c = P
  wt : ∃ ws, Tail M 1 encS wv.1 wv.2.1 wv.2.2 ws ∧ (∀ o ∈ fpOf wv.1, o < M.n ∧ role o = .other 5 ∧ M0.n ≤ o) ∧ Sta 6 M role (fun M => Pks M ws wl)
  wf : wfB B
  cp : ∀ c ∈ cl, (0 ≤ c.1 ∧ c.1 < 8) ∧ c.2.length ≤ 2048
theorem W6.upto {N : Nat} (W : W6 M0 M role hs cur gs ds hd s ot tabs scr cl to B P wl wv N) (k : Nat) (hu : M.Upto M') : W6 M0 M' (extK k role M.n) hs cur gs ds hd s ot tabs scr cl to B P wl wv N := by
  obtain ⟨ws, w1, w2, w3⟩ := W.wt
  exact ⟨W.H.upto k hu, W.h1, W.me, W.oth, ⟨ws, w1.same (fun o ho => hu.2 o (w2 o ho).1), fun o ho => ⟨by have := (w2 o ho).1; have := hu.1; omega, (extK_lt (w2 o ho).1).trans (w2 o ho).2.1, (w2 o ho).2.2⟩, w3.fj (Fj.extK k role hu)⟩, W.wf, W.cp⟩
theorem W6.len {N : Nat} (W : W6 M0 M role hs cur gs ds hd s ot tabs scr cl to B P wl wv N) : wv.2.1 = wl.length := by
  obtain ⟨ws, w1, _, w3⟩ := W.wt
  rw [← w1.length]; exact w3.now.length
theorem W6.sz {N : Nat} (W : W6 M0 M role hs cur gs ds hd s ot tabs scr cl to B P wl wv N) : B.length ≤ 2048 := by
  obtain ⟨g, d, h1, h2, rfl, _⟩ := W.me
  exact W.H.I.sz W.H.s0 h1 h2
theorem W6.eqB {N : Nat} (W : W6 M0 M role hs cur gs ds hd s ot tabs scr cl to B P wl wv N) {a : Option (Nat × Nat)} {l : Nat} {c : Cap} (hx : ∀ M', M.Upto M' → M'.ints .u8 a l c = some B) :
    ∃ (M' : Mem) (v : SlV), C 16 [.ptr (some (s, 0))] M = some (.sl v.1 v.2.1 v.2.2, M') ∧ M.Upto M' ∧ C 22 [.sl v.1 v.2.1 v.2.2, .sl a l c] M' = some (.bool true, M') := by
  obtain ⟨g, d, h1, h2, rfl, _⟩ := W.me
  have hsz := W.H.I.sz W.H.s0 h1 h2
  obtain ⟨M', v, k1, u1, ov, _⟩ := I_bytes W.H.I W.H.s0 h1
  rw [bytesO_at h2] at ov
  have hvl := ov.1
  have hEq := EqBytes_C ov.ints (hx M' u1) (by omega)
  rw [decide_eq_true rfl] at hEq
  exact ⟨M', v, k1, u1, hEq⟩
theorem W6.eqO {N : Nat} (W : W6 M0 M role hs cur gs ds hd s ot tabs scr cl to B P wl wv N) {a : Option (Nat × Nat)} {l : Nat} {c : Cap} (hx : M0.ints .u8 a l c = some P) (hl : l < 2 ^ 62) :
    ∃ (M' : Mem) (v : SlV), C 16 [.ptr (some (ot, 0))] M = some (.sl v.1 v.2.1 v.2.2, M') ∧ M.Upto M' ∧ C 22 [.sl v.1 v.2.1 v.2.2, .sl a l c] M' = some (.bool true, M') := by
  obtain ⟨co, h1, h2⟩ := W.oth
  obtain ⟨M', v, k1, u1, ov, _⟩ := I_bytes W.H.I W.h1 h1
  rw [h2] at ov
  have hvl := ov.1
  have hxl := ints_length hx
  have hEq := EqBytes_C ov.ints (ints_upto hx (W.H.I.up.trans u1)) (by omega)
  rw [decide_eq_true rfl] at hEq
  exact ⟨M', v, k1, u1, hEq⟩
theorem W6.want {N : Nat} (W : W6 M0 M role hs cur gs ds hd s ot tabs scr cl to B P wl wv N) {w : SlV} {xs : List Int} (hw : Sta 6 M role (fun M => M.bytesAt w = some xs)) (h8 : wl.length ≤ 8) :
    ∃ (M' : Mem) (role' : Nat → Rj) (wv' : SlV), (∀ {β : Type} (K : Option (Nat × Nat) → Nat → Cap → Mem → Option β), appK false 1 24 (M.alloc ⟨[.sl w.1 w.2.1 w.2.2], .fixed⟩) wv.1 wv.2.1 wv.2.2 (.sl (some (M.n, 0)) 1 (.known 1)) K = K wv'.1 wv'.2.1 wv'.2.2 M') ∧
      W6 M0 M' role' hs cur gs ds hd s ot tabs scr cl to B P (wl ++ [xs]) wv' N ∧ Sta 6 M' role' (fun M => M.bytesAt w = some xs) := by
  obtain ⟨ws, w1, w2, w3⟩ := W.wt
  have hlen := W.len
  obtain ⟨M3, k3, t3, n3, b3, g3⟩ := Tail.push (bytes := 24) (y := w) (cs := [.sl w.1 w.2.1 w.2.2]) w1 encS1 (by omega) rfl (by omega) (fun o ho => (w2 o ho).1)
  have up0 := W.H.I.up
  have upn := up0.1
  have rl : ∀ y, y < M.n → extK 5 role M.n y = role y := fun y hy => extK_lt hy
  have hu : M0.Upto M3 := ⟨by omega, fun o ho => by rw [b3.2 o (by omega) (fun e => by have := (w2 o e).2.2; omega), up0.2 o ho]⟩
  have hg : ∀ y, y < M.n → role y ≠ .other 5 → M3.get y = M.get y := fun y hy hr => b3.2 y hy (fun e => hr (w2 y e).2.1)
  have st6 : ∀ Q : Mem → Prop, Sta 6 M role Q → Sta 6 M3 (extK 5 role M.n) Q := fun Q h => h.next (by omega) (fun o ho hro => hg o ho (by rw [hro]; intro e; cases e)) rl
  refine ⟨M3, extK 5 role M.n, (some (M.n + 1, 0), wv.2.1 + 1, .unk 0), k3, ⟨W.H.frame (by omega) hu hg rl, W.h1, W.me, W.oth, ⟨ws ++ [w], t3, fun o ho => ?_, ((st6 _ w3).and (st6 _ hw)).mono (fun M' h => h.1.app (Pks.one h.2))⟩, W.wf, W.cp⟩, st6 _ hw⟩
  simp only [fpOf, List.mem_singleton] at ho
  subst ho
  exact ⟨by omega, extK_ge (by omega), by omega⟩
theorem asks_ld {bytes : Nat} {a : Option (Nat × Nat)} {l : Nat} {c : Cap} (h : Shows M (.sl bytes [.int .i32, .int .u64, .int .u64, .int .u64, .int .u64, .int .u64, .bool]) (.sl a l c)) {i : Nat} (hi : i < l) : ∃ (p : Nat × Nat) (id : Int) (x y z : Nat) (q4 q5 : Int), slPtr a c = some p ∧ (-2147483648 ≤ id ∧ id < 2147483648) ∧ x < 2 ^ 64 ∧ y < 2 ^ 64 ∧ ∀ M', M.Upto M' →
    M'.ldI .i32 p.1 (p.2 + i * 7 + 0) = some id ∧ M'.ldI .u64 p.1 (p.2 + i * 7 + 1) = some (x : Int) ∧ M'.ldI .u64 p.1 (p.2 + i * 7 + 1 + 1) = some (y : Int) ∧ M'.ldI .u64 p.1 (p.2 + i * 7 + 1 + 1 + 1) = some (z : Int) ∧ M'.ldI .u64 p.1 (p.2 + i * 7 + 1 + 1 + 1 + 1) = some q4 ∧ M'.ldI .u64 p.1 (p.2 + i * 7 + 1 + 1 + 1 + 1 + 1) = some q5 := by
  obtain ⟨p, vs, p1, -, p3, p4⟩ := h.row hi
  simp only [ShowsR, Shows] at p3
  obtain ⟨v0, _, rfl, ⟨n0, rfl, h0⟩, v1, _, rfl, ⟨n1, rfl, h1⟩, v2, _, rfl, ⟨n2, rfl, h2⟩, v3, _, rfl, ⟨n3, rfl, h3⟩, v4, _, rfl, ⟨n4, rfl, h4⟩, v5, _, rfl, ⟨n5, rfl, h5⟩, v6, _, rfl, hb, rfl⟩ := p3
  have b0 := i32_bounds h0
  have b1 := u64_bounds h1
  have b2 := u64_bounds h2
  have b3 := u64_bounds h3
  obtain ⟨x, rfl⟩ : ∃ x : Nat, n1 = (x : Int) := ⟨n1.toNat, by omega⟩
  obtain ⟨y, rfl⟩ : ∃ x : Nat, n2 = (x : Int) := ⟨n2.toNat, by omega⟩
  obtain ⟨z, rfl⟩ : ∃ x : Nat, n3 = (x : Int) := ⟨n3.toNat, by omega⟩
  refine ⟨p, n0, x, y, z, n4, n5, p1, b0, by omega, by omega, fun M' hu => ?_⟩
  have k : ∀ f v, f < 7 → ([AVal.int .i32 n0, .int .u64 (x : Int), .int .u64 (y : Int), .int .u64 (z : Int), .int .u64 n4, .int .u64 n5, v6])[f]? = some v → M'.ld p.1 (p.2 + i * 7 + f) = some v := fun f v hf hv => by
    rw [Nat.add_assoc]
    have := p4 M' hu f hf
    simp only [List.length_cons, List.length_nil] at this
    rw [this]; exact hv
  exact ⟨ldI_ld.2 (k 0 _ (by omega) rfl), ldI_ld.2 (k 1 _ (by omega) rfl), ldI_ld.2 (k 2 _ (by omega) rfl), ldI_ld.2 (k 3 _ (by omega) rfl), ldI_ld.2 (k 4 _ (by omega) rfl), ldI_ld.2 (k 5 _ (by omega) rfl)⟩
theorem shown_loop {ov : SlV} {vs : List (Int × SlV)} {ws : List SlV} (ho : Sl M 2 encC ov.1 ov.2.1 ov.2.2 vs) (hc : Cps M vs cl) (hw : Sl M 1 encS wv.1 wv.2.1 wv.2.2 ws) (hp : Pks M ws (cl.map (·.2))) (hcp : ∀ c ∈ cl, (0 ≤ c.1 ∧ c.1 < 8) ∧ c.2.length ≤ 2048) (h8 : cl.length ≤ 8) :
    ∀ (d i : Nat), i + d = cl.length → p5_5 C prog.meth wv.1 wv.2.1 wv.2.2 ov.1 ov.2.1 ov.2.2 (i : Int) M = some (.bool true, M) := by
  have ol : ov.2.1 = cl.length := by rw [← ho.2]; exact hc.length
  have wl : wv.2.1 = cl.length := by rw [← hw.2, hp.length]; simp
  intro d
  induction d with
  | zero =>
    intro i hi
    have hE := p5_5_eq C prog.meth wv.1 wv.2.1 wv.2.2 ov.1 ov.2.1 ov.2.2 (i : Int) M
    have q : ¬ ((i : Int) < (ov.2.1 : Int)) := by omega
    simp only [q, decide_false, cond_false] at hE
    exact hE
  | succ d ih =>
    intro i hi
    have hE := p5_5_eq C prog.meth wv.1 wv.2.1 wv.2.2 ov.1 ov.2.1 ov.2.2 (i : Int) M
    have q : ((i : Int) < (ov.2.1 : Int)) := by omega
    have k0 : (0 : Int) ≤ (i : Int) := by omega
    have k1 : Nat.blt i ov.2.1 = true := Mem.blt_iff.2 (by omega)
    have k2 : Nat.blt i wv.2.1 = true := Mem.blt_iff.2 (by omega)
    have w1 : IntKind.wrap .i64 ((i : Int) + 1) = ((i + 1 : Nat) : Int) := by rw [wrap_i64 (by omega) (by omega)]; rfl
    obtain ⟨hv, e1, e2⟩ := hc.at (i := i) (by omega)
    obtain ⟨p, hpp, hpv⟩ := ho.get encC2 (by omega) (i := i) (by omega)
    have v0 : M.ldI .i64 p.1 (p.2 + i * 2 + 0) = some (cl[i].1) := ldI_ld.2 (by have := hpv 0 (by omega); rw [← Nat.add_assoc] at this; rw [← e1]; exact this)
    have v1 : M.ldL p.1 (p.2 + i * 2 + 1) = some (vs[i].2) := by
      have := hpv 1 (by omega)
      rw [← Nat.add_assoc] at this
      unfold Mem.ldL
      rw [this]; rfl
    obtain ⟨p', hpp', hpv'⟩ := hw.get encS1 (by omega) (i := i) (by omega)
    have hwl := hw.2
    have v2 : M.ldL p'.1 (p'.2 + i * 1) = some (ws[i]'(by omega)) := by
      have := hpv' 0 (by omega)
      rw [Nat.add_zero] at this
      unfold Mem.ldL
      rw [this]; rfl
    have b2 := hp.get (i := i) (by omega)
    rw [List.getElem_map] at b2
    obtain ⟨c1, c2⟩ := hcp _ (List.getElem_mem (show i < cl.length by omega))
    have hel := ints_length (show M.ints .u8 vs[i].2.1 vs[i].2.2.1 vs[i].2.2.2 = some cl[i].2 from e2)
    have hEq := EqBytes_C (show M.ints .u8 vs[i].2.1 vs[i].2.2.1 vs[i].2.2.2 = some cl[i].2 from e2) (show M.ints .u8 (ws[i]'(by omega)).1 (ws[i]'(by omega)).2.1 (ws[i]'(by omega)).2.2 = some cl[i].2 from b2) (by omega)
    rw [decide_eq_true rfl] at hEq
    have q1 : ¬ (cl[i].1 < 0) := by omega
    have q2 : ¬ (cl[i].1 ≥ 8) := by omega
    simp only [int?_int, rvs, Int.reduceBEq, Int.reduceBNe, Int.cast_ofNat_Int, q, k0, k1, k2, Int.toNat_natCast, hpp, v1, hpp', v2, hEq, v0, q1, q2, w1] at hE
    exact hE.trans (ih (i + 1) (by omega))
end
end Go.Proofs.Ytidofnpfeibbfaa.M
set_option linter.unusedVariables false
set_option linter.unusedSimpArgs false
set_option linter.unnecessarySimpa false
set_option maxRecDepth 100000
namespace Go.Proofs.Ytidofnpfeibbfaa.M
open Go.Abs Go.RowKit
section
variable {M0 M M' : Mem} {role role' : Nat → Rj} {hs : List Nat} {cur cur' : List (Option Nat)} {gs gs' : List Gp} {ds ds' : List Dt} {h i g N : Nat} {d : Dt} {hd s ot : Nat} {tabs : List (List Pr)} {scr : List (List Deed)} {cl : List (Int × List Int)} {to : Int} {B P : List Int} {wl : List (List Int)} {wv : SlV} {a a2 : Option (Nat × Nat)} {l l2 : Nat} {c c2 : Cap}
theorem last_C {B' : List Int} (W : W6 M0 M role hs cur gs ds hd s ot tabs scr cl to B' P wl wv N) {w : SlV} (hw : Sta 6 M role (fun M => M.bytesAt w = some B)) (h8 : wl.length ≤ 8) {p : Nat × Nat} {id e : Int} (hp : slPtr a2 c2 = some p) (hid : M.ldI .i32 p.1 (p.2 + i * 7 + 0) = some id) (hi : i < l2) (hi60 : i < 60) (hsame : (e ≠ 0 ∨ id = 1 ∨ (6 ≤ id ∧ id ≤ 8)) → B' = B) :
    ∃ M' role', p5_8 C prog.meth a l c a2 l2 c2 (some (s, 0)) (some (ot, 0)) (some (hd, 0)) wv.1 wv.2.1 wv.2.2 (i : Int) w.1 w.2.1 w.2.2 e M = p5_3 C prog.meth a l c a2 l2 c2 (some (s, 0)) (some (ot, 0)) (some (hd, 0)) wv.1 wv.2.1 wv.2.2 ((i + 1 : Nat) : Int) M' ∧ W6 M0 M' role' hs cur gs ds hd s ot tabs scr cl to B' P wl wv N := by
  have hE := p5_8_eq C prog.meth a l c a2 l2 c2 (some (s, 0)) (some (ot, 0)) (some (hd, 0)) wv.1 wv.2.1 wv.2.2 (i : Int) w.1 w.2.1 w.2.2 e M
  have hlen := W.len
  have q : ¬ ((wv.2.1 : Int) > 8) := by omega
  have k0 : (0 : Int) ≤ (i : Int) := by omega
  have k1 : Nat.blt i l2 = true := Mem.blt_iff.2 hi
  have w1 : IntKind.wrap .i64 ((i : Int) + 1) = ((i + 1 : Nat) : Int) := by rw [wrap_i64 (by omega) (by omega)]; rfl
  have eqb : B' = B → ∃ (M' : Mem) (v : SlV), C 16 [.ptr (some (s, 0))] M = some (.sl v.1 v.2.1 v.2.2, M') ∧ M.Upto M' ∧ C 22 [.sl v.1 v.2.1 v.2.2, .sl w.1 w.2.1 w.2.2] M' = some (.bool true, M') := fun hB => by
    subst hB
    exact W.eqB (fun M' hu => hw M' hu.1 (fun o ho _ => hu.2 o ho))
  simp only [int?_int, rvs, Int.reduceBEq, Int.reduceBNe, Int.cast_ofNat_Int, q, k0, k1, Int.toNat_natCast, hp, hid, w1] at hE
  by_cases he : e = 0
  rotate_left
  · have e1 : (e != 0) = true := by simp [he]
    obtain ⟨M', v, r1, u1, r2⟩ := eqb (hsame (.inl he))
    simp only [int?_int, rvs, Int.reduceBEq, Int.reduceBNe, Int.cast_ofNat_Int, e1, r1, r2] at hE
    exact ⟨M', _, hE, W.upto 0 u1⟩
  have e1 : (e != 0) = false := by simp [he]
  simp only [e1, cond_false] at hE
  by_cases h1 : id = 1
  · have e2 : (id == 1) = true := by simp [h1]
    obtain ⟨M', v, r1, u1, r2⟩ := eqb (hsame (.inr (.inl h1)))
    simp only [int?_int, rvs, Int.reduceBEq, Int.reduceBNe, Int.cast_ofNat_Int, e2, r1, r2] at hE
    exact ⟨M', _, hE, W.upto 0 u1⟩
  have e2 : (id == 1) = false := by simp [h1]
  simp only [e2, cond_false] at hE
  by_cases h6 : id ≥ 6
  rotate_left
  · simp only [h6, decide_false, cond_false] at hE
    exact ⟨M, role, hE, W⟩
  simp only [h6, decide_true, cond_true] at hE
  by_cases h9 : id ≤ 8
  rotate_left
  · simp only [h9, decide_false, cond_false] at hE
    exact ⟨M, role, hE, W⟩
  obtain ⟨M', v, r1, u1, r2⟩ := eqb (hsame (.inr (.inr ⟨h6, h9⟩)))
  simp only [int?_int, rvs, Int.reduceBEq, Int.reduceBNe, Int.cast_ofNat_Int, h9, r1, r2] at hE
  exact ⟨M', _, hE, W.upto 0 u1⟩
theorem step_C {bytes : Nat} (W : W6 M0 M role hs cur gs ds hd s ot tabs scr cl to B P (cl.map (·.2)) wv N) (hN2 : N < 2 ^ 62) (hp : M0.ints .u8 a l c = some P) (hl : l < 2 ^ 62) (hq : Shows M0 (.sl bytes [.int .i32, .int .u64, .int .u64, .int .u64, .int .u64, .int .u64, .bool]) (.sl a2 l2 c2)) (hi : i < l2) (hi60 : i < 60) :
    ∃ M' role' cur' gs' ds' cl' to' B' wv', p5_4 C prog.meth a l c a2 l2 c2 (some (s, 0)) (some (ot, 0)) (some (hd, 0)) wv.1 wv.2.1 wv.2.2 (i : Int) M = p5_3 C prog.meth a l c a2 l2 c2 (some (s, 0)) (some (ot, 0)) (some (hd, 0)) wv'.1 wv'.2.1 wv'.2.2 ((i + 1 : Nat) : Int) M' ∧ W6 M0 M' role' hs cur' gs' ds' hd s ot tabs scr cl' to' B' P (cl'.map (·.2)) wv' (N + 1) := by
  have hE := p5_4_eq C prog.meth a l c a2 l2 c2 (some (s, 0)) (some (ot, 0)) (some (hd, 0)) wv.1 wv.2.1 wv.2.2 (i : Int) M
  obtain ⟨g, d, hc, hd', hB, hN⟩ := W.me
  subst hB
  obtain ⟨M1, w, b1, u1, ow, fw⟩ := I_bytes W.H.I W.H.s0 hc
  rw [bytesO_at hd'] at ow
  have W1 := W.upto 6 u1
  have hwl : ∀ o ∈ fpS w, o < M1.n := bytesAt_lt (show M1.bytesAt w = some d.B from ow.ints)
  have hw1 : Sta 6 M1 (extK 6 role M.n) (fun M => M.bytesAt w = some d.B) := fun M5 h5 hg5 => by
    show M5.bytesAt w = some d.B
    rw [bytesAt_same (fun o ho => hg5 o (hwl o ho) (extK_ge (fw o ho)))]; exact ow.ints
  obtain ⟨p, id, x, y, z, q4, q5, hpp, hid, hx, hy, hld⟩ := asks_ld hq hi
  obtain ⟨A0, A1, A2, A3, A4, A5⟩ := hld M1 W1.H.I.up
  have k0 : (0 : Int) ≤ (i : Int) := by omega
  have k1 : Nat.blt i l2 = true := Mem.blt_iff.2 hi
  obtain ⟨M2, k2, role2, cur2, gs2, ds2, H2, S2, F2⟩ := Call_C W1.H hc hd' hN hN2 W.wf hid (z := z) (q4 := q4) (q5 := q5) hx hy
  have hcl := callA_cl tabs scr ⟨d.B, cl, to⟩ id x y z
  have herr := callA_err tabs scr ⟨d.B, cl, to⟩ id x y z
  have hwf := callA_wf (tabs := tabs) (scr := scr) (σ := ⟨d.B, cl, to⟩) W.wf (fun L hL d hd => ((W.H.okS.2 L hL).2 d hd).1) id x y z
  have hsm := callA_same (tabs := tabs) (scr := scr) (σ := ⟨d.B, cl, to⟩) (id := id) (x := x) (y := y) (z := z)
  generalize callA tabs scr ⟨d.B, cl, to⟩ id x y z = R at *
  obtain ⟨n, e, σ⟩ := R
  simp only at k2 H2 S2 hcl herr hwf hsm
  have hsz := W.sz
  have W2 : W6 M0 M2 role2 hs cur2 gs2 ds2 hd s ot tabs scr σ.cl σ.to σ.B P (cl.map (·.2)) wv (N + 1) := by
    obtain ⟨ws, w1, w2, w3⟩ := W1.wt
    obtain ⟨co, o1, o2⟩ := W1.oth
    obtain ⟨co', o3, o4⟩ := S2.oth 1 co (by decide) o1
    refine ⟨H2, W.h1, S2.me, ⟨co', o3, o4.trans o2⟩, ⟨ws, w1.same (fun o ho => F2.get o (w2 o ho).1 ⟨5, (w2 o ho).2.1, by decide, by decide⟩), fun o ho => ⟨by have := (w2 o ho).1; have := F2.n; omega, (F2.rl o (w2 o ho).1).trans (w2 o ho).2.1, (w2 o ho).2.2⟩, w3.fo F2 (by decide) (by decide)⟩, hwf, fun c hc => ?_⟩
    rcases hcl with ⟨_, _, h3, h4⟩ | ⟨_, h4⟩
    · rw [h4] at hc
      rcases List.mem_append.1 hc with hc | hc
      · exact W.cp c hc
      · obtain rfl : c = ((x : Int), d.B) := by simpa using hc
        exact ⟨⟨by simp only; omega, by simp only; omega⟩, hsz⟩
    · rw [h4] at hc; exact W.cp c hc
  have hw2 : Sta 6 M2 role2 (fun M => M.bytesAt w = some d.B) := hw1.fo F2 (by decide) (by decide)
  obtain ⟨M3, v, r1, u3, r2⟩ := W2.eqO hp hl
  have W3 := W2.upto 0 u3
  have hw3 : Sta 6 M3 (extK 0 role2 M2.n) (fun M => M.bytesAt w = some d.B) := hw2.fj (Fj.extK 0 role2 u3)
  obtain ⟨E0, _⟩ := hld M3 W3.H.I.up
  have hc8 := H2.okC
  rw [b1, Option.bind_some] at hE
  simp only [int?_int, rvs, Int.reduceBEq, Int.reduceBNe, Int.cast_ofNat_Int, k0, k1, Int.toNat_natCast, hpp, A0, A1, A2, A3, A4, A5] at hE
  rw [k2, Option.bind_some] at hE
  simp only [int?_int, rvs, Int.reduceBEq, Int.reduceBNe, Int.cast_ofNat_Int, r1, r2] at hE
  have hE2 : p5_4 C prog.meth a l c a2 l2 c2 (some (s, 0)) (some (ot, 0)) (some (hd, 0)) wv.1 wv.2.1 wv.2.2 (i : Int) M = p5_6 C prog.meth a l c a2 l2 c2 (some (s, 0)) (some (ot, 0)) (some (hd, 0)) wv.1 wv.2.1 wv.2.2 (i : Int) w.1 w.2.1 w.2.2 n e M3 := by
    rw [hE]
    rcases herr with rfl | rfl <;> rfl
  have hF := p5_6_eq C prog.meth a l c a2 l2 c2 (some (s, 0)) (some (ot, 0)) (some (hd, 0)) wv.1 wv.2.1 wv.2.2 (i : Int) w.1 w.2.1 w.2.2 n e M3
  simp only [int?_int, rvs, Int.reduceBEq, Int.reduceBNe, Int.cast_ofNat_Int, k0, k1, Int.toNat_natCast, hpp, E0] at hF
  rcases hcl with ⟨h1, h2, h3, h4⟩ | ⟨h1, h4⟩
  · have e1 : (id == 6) = true := by simp [h1]
    have e2 : (n == 1) = true := by simp [h2]
    simp only [e1, e2, cond_true] at hF
    have hG := p5_7_eq C prog.meth a l c a2 l2 c2 (some (s, 0)) (some (ot, 0)) (some (hd, 0)) wv.1 wv.2.1 wv.2.2 (i : Int) w.1 w.2.1 w.2.2 e M3
    have hlen4 : (cl.map (·.2)).length + 1 ≤ 8 := by rw [h4] at hc8; simpa using hc8
    obtain ⟨M4, role4, wv', k4, W4, hw4⟩ := W3.want hw3 (by omega)
    rw [k4] at hG
    obtain ⟨E4, _⟩ := hld M4 W4.H.I.up
    have ewl : cl.map (·.2) ++ [d.B] = σ.cl.map (·.2) := by rw [h4]; simp
    rw [ewl] at W4
    obtain ⟨M5, role5, r5, W5⟩ := last_C (e := e) (a := a) (l := l) (c := c) (l2 := l2) W4 hw4 (by rw [← ewl]; simpa using hlen4) hpp E4 hi hi60 hsm
    exact ⟨M5, role5, cur2, gs2, ds2, σ.cl, σ.to, σ.B, wv', hE2.trans (hF.trans (hG.trans r5)), W5⟩
  · have hF' : p5_6 C prog.meth a l c a2 l2 c2 (some (s, 0)) (some (ot, 0)) (some (hd, 0)) wv.1 wv.2.1 wv.2.2 (i : Int) w.1 w.2.1 w.2.2 n e M3 = p5_8 C prog.meth a l c a2 l2 c2 (some (s, 0)) (some (ot, 0)) (some (hd, 0)) wv.1 wv.2.1 wv.2.2 (i : Int) w.1 w.2.1 w.2.2 e M3 := by
      rw [hF]
      by_cases h6 : id = 6
      · have e1 : (id == 6) = true := by simp [h6]
        have e2 : (n == 1) = false := by simpa using fun hn => h1 ⟨h6, hn⟩
        rw [e1, e2]; rfl
      · have e1 : (id == 6) = false := by simp [h6]
        rw [e1]; rfl
    rw [← h4] at W3
    have hl8 : (σ.cl.map (·.2)).length ≤ 8 := by simpa using hc8
    obtain ⟨M5, role5, r5, W5⟩ := last_C (e := e) (a := a) (l := l) (c := c) (l2 := l2) W3 hw3 hl8 hpp E0 hi hi60 hsm
    exact ⟨M5, role5, cur2, gs2, ds2, σ.cl, σ.to, σ.B, wv, hE2.trans (hF'.trans r5), W5⟩
theorem copies_loop {bytes : Nat} (hp : M0.ints .u8 a l c = some P) (hl : l < 2 ^ 62) (hq : Shows M0 (.sl bytes [.int .i32, .int .u64, .int .u64, .int .u64, .int .u64, .int .u64, .bool]) (.sl a2 l2 c2)) :
    ∀ (dd i : Nat) (M : Mem) (role : Nat → Rj) (cur : List (Option Nat)) (gs : List Gp) (ds : List Dt) (cl : List (Int × List Int)) (to : Int) (B : List Int) (wv : SlV), i + dd = 60 → W6 M0 M role hs cur gs ds hd s ot tabs scr cl to B P (cl.map (·.2)) wv i →
      ∃ M', p5_3 C prog.meth a l c a2 l2 c2 (some (s, 0)) (some (ot, 0)) (some (hd, 0)) wv.1 wv.2.1 wv.2.2 (i : Int) M = some (.bool true, M') := by
  intro dd
  have last : ∀ (i : Nat) (M : Mem) (role : Nat → Rj) (cur : List (Option Nat)) (gs : List Gp) (ds : List Dt) (cl : List (Int × List Int)) (to : Int) (B : List Int) (wv : SlV), ¬ (i < l2 ∧ i < 60) → W6 M0 M role hs cur gs ds hd s ot tabs scr cl to B P (cl.map (·.2)) wv i →
      ∃ M', p5_3 C prog.meth a l c a2 l2 c2 (some (s, 0)) (some (ot, 0)) (some (hd, 0)) wv.1 wv.2.1 wv.2.2 (i : Int) M = some (.bool true, M') := by
    intro i M role cur gs ds cl to B wv hi W
    have hE := p5_3_eq C prog.meth a l c a2 l2 c2 (some (s, 0)) (some (ot, 0)) (some (hd, 0)) wv.1 wv.2.1 wv.2.2 (i : Int) M
    obtain ⟨M1, ov, vs, k1, u1, ho, hcp⟩ := Clones_C W.H (fun c hc => by have := (W.cp c hc).2; omega)
    obtain ⟨ws, w1, w2, w3⟩ := W.wt
    have hc8 := W.H.okC
    have ol : ov.2.1 = cl.length := by rw [← ho.2]; exact hcp.length
    have wl := W.len
    rw [List.length_map] at wl
    have q : ((ov.2.1 : Int) != (wv.2.1 : Int)) = false := by rw [ol, wl]; simp
    have hfin := shown_loop (M := M1) ho hcp (w1.sl.upto encS1 (by omega) u1) (w3.now.upto u1) W.cp hc8 cl.length 0 (by omega)
    have hfin : p5_5 C prog.meth wv.1 wv.2.1 wv.2.2 ov.1 ov.2.1 ov.2.2 0 M1 = _ := hfin
    simp only [k1, Option.bind_some, AVal.sl?, q, cond_false, hfin] at hE
    refine ⟨M1, hE.trans ?_⟩
    by_cases h1 : (i : Int) < (l2 : Int)
    · have h2 : ¬ ((i : Int) < 60) := by omega
      simp only [h1, h2, decide_true, decide_false, cond_true, cond_false]
    · simp only [h1, decide_false, cond_false]
  induction dd with
  | zero =>
    intro i M role cur gs ds cl to B wv hi W
    exact last i M role cur gs ds cl to B wv (by omega) W
  | succ dd ih =>
    intro i M role cur gs ds cl to B wv hi W
    by_cases h2 : i < l2 ∧ i < 60
    rotate_left
    · exact last i M role cur gs ds cl to B wv h2 W
    have hE := p5_3_eq C prog.meth a l c a2 l2 c2 (some (s, 0)) (some (ot, 0)) (some (hd, 0)) wv.1 wv.2.1 wv.2.2 (i : Int) M
    have q1 : ((i : Int) < (l2 : Int)) := by omega
    have q2 : ((i : Int) < 60) := by omega
    simp only [q1, q2, decide_true, cond_true] at hE
    obtain ⟨M', role', cur', gs', ds', cl', to', B', wv', r1, W'⟩ := step_C W (by omega) hp hl hq h2.1 h2.2
    obtain ⟨M'', r2⟩ := ih (i + 1) M' role' cur' gs' ds' cl' to' B' wv' (by omega) W'
    exact ⟨M'', hE.trans (r1.trans r2)⟩
theorem DS.arg {a : Option (Nat × Nat)} {l : Nat} {c : Cap} {L : List Deed} (h : Deeds M0 a l c L) (hr : ∀ y, y < M0.n → role y = .other 4) (hu : M0.Upto M) : DS M role a l c L := ⟨h.len, fun i hi => by
  obtain ⟨p, v, h1, h2⟩ := h.at_ i hi
  exact ⟨p, v, h1, fun M' hn hg => h2 M' ⟨by have := hu.1; omega, fun o ho => by rw [hg o (by have := hu.1; omega) (hr o ho), hu.2 o ho]⟩⟩⟩
theorem HelperCopies_C {ps : List Int} {bytes : Nat} {ta fa : SlV} {tvs dvs : List SlV} (hp : PS M a l c ps) (hwp : wfB ps) (ht : Sl M 1 encS ta.1 ta.2.1 ta.2.2 tvs) (hT : Tbs M tvs tabs) (htl : ta.2.1 ≤ 2 ^ 40) (h64 : ∀ T ∈ tabs, T.length ≤ 2 ^ 43) (hf : Sl M 1 encS fa.1 fa.2.1 fa.2.2 dvs) (hfl : fa.2.1 ≤ 1048576) (hdl : dvs.length = scr.length)
    (hdv : ∀ (i : Nat) (w : SlV) (L : List Deed), dvs[i]? = some w → scr[i]? = some L → Deeds M w.1 w.2.1 w.2.2 L) (okS : ∀ L ∈ scr, L.length ≤ 1048576 ∧ ∀ d ∈ L, DeedOk d ∧ d.2.2.length ≤ 1048576) (hq : Shows M (.sl bytes [.int .i32, .int .u64, .int .u64, .int .u64, .int .u64, .int .u64, .bool]) (.sl a2 l2 c2)) :
    ∃ M', C 5 [.sl a l c, .agg [.sl ta.1 ta.2.1 ta.2.2, .sl fa.1 fa.2.1 fa.2.2], .sl a2 l2 c2] M = some (.bool true, M') := by
  have hE := p5_0_eq C prog.meth a l c ta.1 ta.2.1 ta.2.2 fa.1 fa.2.1 fa.2.2 a2 l2 c2 M
  obtain ⟨M1, e1, g1, u1, n1⟩ := alloc_at M ⟨[.sl ta.1 ta.2.1 ta.2.2, .sl fa.1 fa.2.1 fa.2.2], .fixed⟩
  obtain ⟨Mw, cw⟩ := works24_C
  obtain ⟨l', c', hl', hps⟩ := Cut_C (hp.upto u1)
  have G0 : GS false KI M M1 (fun _ => .other 4) [] [] [] [] := ⟨u1, rfl, by simp, by simp, rfl, by simp, by simp⟩
  obtain ⟨M2, s, x, role2, n2, u2, H2, F2⟩ := I_new G0 (by simp) hps.ints hl'
  have H2 : GS false KI M M2 role2 [s] [some 0] [x] [⟨ps.take 2048, 64, 64, 0⟩] := H2
  obtain ⟨M3, ot, role3, n3, H3, F3⟩ := I_clone H2 (i := 0) (g := 0) rfl rfl (by simp)
  have H3 : GS false KI M M3 role3 [s, ot] [some 0, some 0] [x] [⟨ps.take 2048, 64, 64, 0⟩] := H3
  have up3 := H3.up
  have n3' := F3.n
  have r4 : ∀ y, y < M1.n → role3 y = .other 4 := fun y hy => by rw [F3.rl y (by have := F2.n; omega), F2.rl y hy]
  have g3 : M3.get M.n = some ⟨[.sl ta.1 ta.2.1 ta.2.2, .sl fa.1 fa.2.1 fa.2.2], .fixed⟩ := by
    rw [F3.get M.n (by have := F2.n; omega) (by rw [F2.rl M.n (by omega)]; exact nofun), F2.get M.n (by omega) nofun]; exact g1
  have hE1 := p5_1_eq C prog.meth a l' c a2 l2 c2 M.n (some (s, 0)) (some (ot, 0)) M3
  obtain ⟨M4, fv, k4, u4, hf4⟩ := Helpers_C (hf.upto encS1 (by omega) up3) hfl
  have g4 := u4.get g3
  have H4 := H3.extK 0 u4
  have r4' : ∀ y, y < M.n → extK 0 role3 M3.n y = .other 4 := fun y hy => by rw [extK_lt (by have := up3.1; omega)]; exact r4 y (by omega)
  have up4 := H4.up
  have hfl4 : fv.2.1 = fa.2.1 := by rw [← hf4.2]; exact hf.2
  obtain ⟨M5, role5, u5, H5, F5, hnew⟩ := New_C (scr := scr) H4 rfl (g := 0) rfl rfl (ht.upto encS1 (by omega) up4) (hT.upto up4) h64 htl hf4 (by omega) hdl (fun i w L h1 h2 => DS.arg (hdv i w L h1 h2) r4' up4) okS
  have st : M4.still M.n 0 [.sl ta.1 ta.2.1 ta.2.2] = true := still1 (by rw [ld_fix g4]; rfl)
  have hps5 : ∀ Mx, M.Upto Mx → Mx.ints .u8 a l' c = some (ps.take 2048) := fun Mx hu => by
    have h1 := ints_take hp.ints (m := l') (by
      have h1 := ints_length hps.ints
      have h2 := ints_length hp.ints
      rw [List.length_take] at h1
      omega)
    have h2 := ints_upto h1 hu
    have h3 : ps.take l' = ps.take 2048 := by
      have h4 := ints_length hps.ints
      rw [List.length_take] at h4
      by_cases h5 : 2048 ≤ ps.length
      · rw [show l' = 2048 by omega]
      · rw [List.take_of_length_le (show ps.length ≤ l' by omega), List.take_of_length_le (by omega)]
    rw [h3] at h2; exact h2
  simp only [int?_int, rvs, Int.reduceBEq, Int.reduceBNe, Int.cast_ofNat_Int, e1, cw, c', n2, n3] at hE
  rcases hnew with ⟨hne, k5⟩ | ⟨hz, hd, k5, hdn, H⟩
  · have e0 : (newE tabs scr.length != 0) = true := by simp [hne]
    simp only [int?_int, rvs, Int.reduceBEq, Int.reduceBNe, Int.cast_ofNat_Int, ldL_at g3, k4] at hE1
    rw [k5, Option.bind_some] at hE1
    simp only [int?_int, rvs, Int.reduceBEq, Int.reduceBNe, Int.cast_ofNat_Int, st, e0] at hE1
    have hE2 := p5_2_eq C prog.meth a l' c (some (s, 0)) none M5
    obtain ⟨M6, v, b1, b2, b3, b4⟩ := I_bytes H5 (i := 0) rfl rfl
    simp only [bytesO, List.getElem?_cons_zero] at b3
    have hvl := b3.1
    have hEq := EqBytes_C b3.ints (hps5 M6 (H5.up.trans b2)) (by simp only [List.length_take] at hvl; omega)
    rw [decide_eq_true rfl] at hEq
    simp only [int?_int, rvs, Int.reduceBEq, Int.reduceBNe, Int.cast_ofNat_Int, b1, hEq] at hE2
    exact ⟨M6, c5 (hE.trans (hE1.trans hE2))⟩
  · simp only [int?_int, rvs, Int.reduceBEq, Int.reduceBNe, Int.cast_ofNat_Int, ldL_at g3, k4] at hE1
    rw [k5, Option.bind_some] at hE1
    simp only [int?_int, rvs, Int.reduceBEq, Int.reduceBNe, Int.cast_ofNat_Int, st] at hE1
    have W : W6 M M5 role5 [s, ot] [some 0, some 0] [x] [⟨ps.take 2048, 64, 64, 0⟩] hd s ot tabs scr [] (-1) (ps.take 2048) (ps.take 2048) (([] : List (Int × List Int)).map (·.2)) (none, 0, .known 0) 0 :=
      ⟨H, rfl, ⟨0, _, rfl, rfl, rfl, Nat.le_refl _⟩, ⟨some 0, rfl, rfl⟩, ⟨[], Tail.nil _ _ _, fun o ho => by simp [fpOf] at ho, Sta.const rfl⟩, hwp.take _, fun c hc => by simp at hc⟩
    obtain ⟨M6, r6⟩ := copies_loop (hps5 M (Mem.Upto.refl _)) (by omega) hq 60 0 M5 role5 _ _ _ [] (-1) _ (none, 0, .known 0) rfl W
    exact ⟨M6, c5 (hE.trans (hE1.trans r6))⟩
end
theorem HelperCopies_law : ∀ avs M, M.Whole → okL M.n avs → ShowsArgs M [(false, [.sl 1 [.int .u8]]), (true, [.sl 24 [.sl 16 [.int .u64, .int .u64]], .sl 24 [.sl 40 [.int .u8, .int .i64, .sl 1 [.int .u8]]]]), (false, [.sl 56 [.int .i32, .int .u64, .int .u64, .int .u64, .int .u64, .int .u64, .bool]])] avs → (∀ L, L = 1048576 → RoNew L Mem.empty M) → ∃ M', C 5 avs M = some (.bool true, M') := by
  intro avs M hM hok h hq
  simp only [ShowsArgs, ShowsArg] at h
  obtain ⟨v, _, rfl, ⟨t, ht, hv⟩, w, _, rfl, ⟨ws, rfl, hw⟩, z, _, rfl, ⟨t2, ht2, hz⟩, rfl⟩ := h
  obtain rfl : t = .sl 1 [.int .u8] := by simpa using ht.symm
  obtain rfl : t2 = .sl 56 [.int .i32, .int .u64, .int .u64, .int .u64, .int .u64, .int .u64, .bool] := by simpa using ht2.symm
  obtain ⟨a, l, c, xs, rfl, hx, hl, hwf⟩ := hv.ints
  simp only [ShowsR] at hw
  obtain ⟨v0, w0, rfl, hb0, v1, w1, rfl, hb1, rfl⟩ := hw
  obtain ⟨ta, tvs, tabs, rfl, ht, hT, hlt, hall⟩ := htabs_of hb0
  obtain ⟨fa, dvs, scr, rfl, hf, hfl, hdl, hdv, okS⟩ := hscr_of hb1 (hq _ rfl)
  obtain ⟨a2, l2, c2, rfl, _⟩ := hz.form
  have hlt' := rows_le hb0 (hq _ rfl) (by simp)
  exact HelperCopies_C (PS.arg hv hx) (fun c hc => u8_bounds (hwf c hc)) ht hT (by omega) (fun T hT => by have := (hall T hT).1; unfold reachBytes at this; omega) hf hfl hdl hdv okS hz
end Go.Proofs.Ytidofnpfeibbfaa.M
