import Derived.Test.YtmkncifbammfjaaW2
import Derived.Test.YtmkncifbammfjaaR
import Derived.Test.YtmkncifbammfjaaXLaw
set_option linter.unusedVariables false
set_option linter.unusedSimpArgs false
set_option linter.unnecessarySimpa false
set_option maxRecDepth 100000
namespace Go.Proofs.Ytmkncifbammfjaa.M
open Go.Abs Go.RowKit
section
variable {M M0 M' : Mem} {ca ta cb tb w : SlV} {code : List Ins} {tabs : List (List Pr)} {ys zs : List Int} {tvs : List SlV} {Ts : List (List Pr)}
structure Cs (M0 M : Mem) (m1 m2 m3 : Nat) (ca ta cb tb : SlV) (code : List Ins) (tws : List SlV) (Ts : List (List Pr)) : Prop where
  u : M0.Upto M
  g1 : M.ldL m1 1 = some ta
  g2 : M.get m2 = some ⟨[.sl none 0 (.known 0), .sl none 0 (.known 0)], .fixed⟩
  g3 : M.get m3 = some ⟨[.sl cb.1 cb.2.1 cb.2.2, .sl tb.1 tb.2.1 tb.2.2], .fixed⟩
  lc : Sl M 5 encI cb.1 cb.2.1 cb.2.2 code
  lt : Row M 1 encS tb.1 tb.2.1 tb.2.2 tws
  tv : Tbs M tws Ts
  fc : ∀ o ∈ fpOf cb.1, m3 < o ∧ o < M.n
  ft : ∀ o ∈ fpOf tb.1, m3 < o ∧ o < M.n ∧ o ∉ fpOf cb.1
  fv : ∀ w ∈ tws, ∀ o ∈ fpOf w.1, m3 < o ∧ o < M.n ∧ o ∉ fpOf tb.1
  ord : M0.n ≤ m1 ∧ m1 < m2 ∧ m2 < m3
end
end Go.Proofs.Ytmkncifbammfjaa.M
namespace Go.Proofs.Ytmkncifbammfjaa.M
open Go.Abs Go.RowKit
section
variable {M M0 M' : Mem} {ca ta cb tb w : SlV} {code : List Ins} {tabs : List (List Pr)} {ys zs : List Int} {tvs : List SlV} {Ts : List (List Pr)}
theorem wcode_of {v : AVal} (h : Shows M (.sl 12 [.int .u8, .int .u8, .int .u8, .int .i16, .int .i32]) v) : ∃ (s : SlV) (xs : List Ins), v = .sl s.1 s.2.1 s.2.2 ∧ Sl M 5 encI s.1 s.2.1 s.2.2 xs ∧ s.2.1 * 12 ≤ reachBytes ∧ ∀ x ∈ xs, InsR x := by
  rw [Shows] at h
  rcases h with rfl | ⟨o, rfl⟩ | ⟨o, len, cells, rfl, h2, h3, h4, h5⟩
  · exact ⟨(_, _, _), [], rfl, Sl.nil _ _ _ _ _, by simp, by simp⟩
  · exact ⟨(_, _, _), [], rfl, Sl.nil _ _ _ _ _, by simp, by simp⟩
  · have one : ∀ i, i < len → ∃ p : Ins, (cells.drop (i * 5)).take 5 = encI p ∧ InsR p := by
      intro i hi
      have := h5 i hi
      simp only [ShowsR] at this
      obtain ⟨v0, w0, e0, hb0, v1, w1, rfl, hb1, v2, w2, rfl, hb2, v3, w3, rfl, hb3, v4, w4, rfl, hb4, rfl⟩ := this
      simp only [Shows] at hb0 hb1 hb2 hb3 hb4
      obtain ⟨x0, rfl, hx0⟩ := hb0
      obtain ⟨x1, rfl, hx1⟩ := hb1
      obtain ⟨x2, rfl, hx2⟩ := hb2
      obtain ⟨x3, rfl, hx3⟩ := hb3
      obtain ⟨x4, rfl, hx4⟩ := hb4
      obtain ⟨n, rfl⟩ : ∃ n : Nat, x0 = (n : Int) := ⟨x0.toNat, by have := u8_bounds hx0; omega⟩
      exact ⟨(n, x1, x2, x3, x4), e0, ⟨by have := u8_bounds hx0; omega, u8_bounds hx1, u8_bounds hx2, i16_bounds hx3, i32_bounds hx4⟩⟩
    have all : ∀ n, n ≤ len → ∃ xs : List Ins, xs.length = n ∧ cells.take (n * 5) = xs.flatMap encI ∧ ∀ p ∈ xs, InsR p := by
      intro n
      induction n with
      | zero => exact fun _ => ⟨[], rfl, by simp, by simp⟩
      | succ n ih =>
        intro hn
        obtain ⟨xs, e1, e2, e3⟩ := ih (by omega)
        obtain ⟨p, f1, f2⟩ := one n (by omega)
        refine ⟨xs ++ [p], by simp [e1], ?_, fun q hq => ?_⟩
        · rw [Nat.add_mul, Nat.one_mul, List.take_add, e2, f1]; simp [List.flatMap_append]
        · rcases List.mem_append.1 hq with hq | hq
          · exact e3 q hq
          · obtain rfl : q = p := by simpa using hq
            exact f2
    obtain ⟨xs, e1, e2, e3⟩ := all len (Nat.le_refl _)
    have hc : cells.length = len * 5 := by simpa using h3
    rw [← hc, List.take_length] at e2
    refine ⟨(_, _, _), xs, rfl, ?_, h4, e3⟩
    rw [e2] at h2
    have := Sl.whole (c := .unk 0) encI5 h2 (by simp) rfl
    rwa [e1] at this
theorem wpairs_of {v : AVal} (h : Shows M (.sl 16 [.int .u64, .int .u64]) v) : ∃ (s : SlV) (xs : List Pr), v = .sl s.1 s.2.1 s.2.2 ∧ Sl M 2 encP s.1 s.2.1 s.2.2 xs ∧ s.2.1 * 16 ≤ reachBytes ∧ ∀ p ∈ xs, PrR p := by
  rw [Shows] at h
  rcases h with rfl | ⟨o, rfl⟩ | ⟨o, len, cells, rfl, h2, h3, h4, h5⟩
  · exact ⟨(_, _, _), [], rfl, Sl.nil _ _ _ _ _, by simp, by simp⟩
  · exact ⟨(_, _, _), [], rfl, Sl.nil _ _ _ _ _, by simp, by simp⟩
  · have one : ∀ i, i < len → ∃ p : Pr, (cells.drop (i * 2)).take 2 = encP p ∧ PrR p := by
      intro i hi
      have := h5 i hi
      simp only [ShowsR] at this
      obtain ⟨v0, w0, e0, hb0, v1, w1, rfl, hb1, rfl⟩ := this
      simp only [Shows] at hb0 hb1
      obtain ⟨x, rfl, hx⟩ := hb0
      obtain ⟨y, rfl, hy⟩ := hb1
      exact ⟨(x, y), e0, u64_bounds hx, u64_bounds hy⟩
    have all : ∀ n, n ≤ len → ∃ xs : List Pr, xs.length = n ∧ cells.take (n * 2) = xs.flatMap encP ∧ ∀ p ∈ xs, PrR p := by
      intro n
      induction n with
      | zero => exact fun _ => ⟨[], rfl, by simp, by simp⟩
      | succ n ih =>
        intro hn
        obtain ⟨xs, e1, e2, e3⟩ := ih (by omega)
        obtain ⟨p, f1, f2⟩ := one n (by omega)
        refine ⟨xs ++ [p], by simp [e1], ?_, fun q hq => ?_⟩
        · rw [Nat.add_mul, Nat.one_mul, List.take_add, e2, f1]; simp [List.flatMap_append]
        · rcases List.mem_append.1 hq with hq | hq
          · exact e3 q hq
          · obtain rfl : q = p := by simpa using hq
            exact f2
    obtain ⟨xs, e1, e2, e3⟩ := all len (Nat.le_refl _)
    have hc : cells.length = len * 2 := by simpa using h3
    rw [← hc, List.take_length] at e2
    refine ⟨(_, _, _), xs, rfl, ?_, h4, e3⟩
    rw [e2] at h2
    have := Sl.whole (c := .unk 0) encP2 h2 (by simp) rfl
    rwa [e1] at this
theorem wtabs_of {v : AVal} (h : Shows M (.sl 24 [.sl 16 [.int .u64, .int .u64]]) v) : ∃ (s : SlV) (tvs : List SlV) (Ts : List (List Pr)), v = .sl s.1 s.2.1 s.2.2 ∧ Sl M 1 encS s.1 s.2.1 s.2.2 tvs ∧ Tbs M tvs Ts ∧ s.2.1 * 24 ≤ reachBytes ∧ ∀ T ∈ Ts, T.length * 16 ≤ reachBytes ∧ ∀ p ∈ T, PrR p := by
  rw [Shows] at h
  rcases h with rfl | ⟨o, rfl⟩ | ⟨o, len, cells, rfl, h2, h3, h4, h5⟩
  · exact ⟨(_, _, _), [], [], rfl, Sl.nil _ _ _ _ _, Tbs.nil _, by simp, by simp⟩
  · exact ⟨(_, _, _), [], [], rfl, Sl.nil _ _ _ _ _, Tbs.nil _, by simp, by simp⟩
  · have one : ∀ i, i < len → ∃ (p : SlV) (T : List Pr), (cells.drop (i * 1)).take 1 = encS p ∧ Sl M 2 encP p.1 p.2.1 p.2.2 T ∧ T.length * 16 ≤ reachBytes ∧ ∀ q ∈ T, PrR q := by
      intro i hi
      have := h5 i hi
      simp only [ShowsR] at this
      obtain ⟨v0, w0, e0, hb0, rfl⟩ := this
      obtain ⟨p, T, rfl, hs, hl, hr⟩ := wpairs_of hb0
      exact ⟨p, T, e0, hs, by rw [hs.2]; exact hl, hr⟩
    have all : ∀ n, n ≤ len → ∃ (xs : List SlV) (Ts : List (List Pr)), xs.length = n ∧ cells.take (n * 1) = xs.flatMap encS ∧ Tbs M xs Ts ∧ ∀ T ∈ Ts, T.length * 16 ≤ reachBytes ∧ ∀ p ∈ T, PrR p := by
      intro n
      induction n with
      | zero => exact fun _ => ⟨[], [], rfl, by simp, Tbs.nil _, by simp⟩
      | succ n ih =>
        intro hn
        obtain ⟨xs, Ts, e1, e2, e3, e4⟩ := ih (by omega)
        obtain ⟨p, T, f1, f2, f3⟩ := one n (by omega)
        refine ⟨xs ++ [p], Ts ++ [T], by simp [e1], ?_, e3.snoc f2, fun q hq => ?_⟩
        · rw [Nat.add_mul, Nat.one_mul, List.take_add, e2, f1]; simp [List.flatMap_append]
        · rcases List.mem_append.1 hq with hq | hq
          · exact e4 q hq
          · obtain rfl : q = T := by simpa using hq
            exact f3
    obtain ⟨xs, Ts, e1, e2, e3, e4⟩ := all len (Nat.le_refl _)
    have hc : cells.length = len * 1 := by simpa using h3
    rw [← hc, List.take_length] at e2
    refine ⟨(_, _, _), xs, Ts, rfl, ?_, e3, h4, e4⟩
    rw [e2] at h2
    have := Sl.whole (c := .unk 0) encS1 h2 (by simp) rfl
    rwa [e1] at this
structure Arg (M : Mem) (ca ta : SlV) (code : List Ins) (tabs : List (List Pr)) : Prop where
  m : Md M ca ta code tabs
  w : Wfm code tabs
  lc : ca.2.1 * 12 ≤ reachBytes
  lt : ta.2.1 * 24 ≤ reachBytes
  lp : ∀ T ∈ tabs, T.length * 16 ≤ reachBytes
theorem mod_of {vs : List AVal} (h : ShowsR M [.sl 12 [.int .u8, .int .u8, .int .u8, .int .i16, .int .i32], .sl 24 [.sl 16 [.int .u64, .int .u64]]] vs) : ∃ (ca ta : SlV) (code : List Ins) (tabs : List (List Pr)), vs = [.sl ca.1 ca.2.1 ca.2.2, .sl ta.1 ta.2.1 ta.2.2] ∧ Arg M ca ta code tabs := by
  simp only [ShowsR] at h
  obtain ⟨v0, w0, rfl, h0, v1, w1, rfl, h1, rfl⟩ := h
  obtain ⟨ca, code, rfl, hc, lc, hi⟩ := wcode_of h0
  obtain ⟨ta, tvs, tabs, rfl, ht, hT, lt, hp⟩ := wtabs_of h1
  exact ⟨ca, ta, code, tabs, rfl, ⟨⟨hc, tvs, ht, hT⟩, ⟨hi, fun T hT => (hp T hT).2⟩, lc, lt, fun T hT => (hp T hT).1⟩⟩
theorem Shows_b {k : IntKind} {v : AVal} (h : Shows M (.int k) v) : ∃ n, v = .int k n ∧ (Lit.int k n).wf = true := by simpa only [Shows] using h
def knownL : List Int := [115, 112, 108, 121, 1, 0, 0, 1, 36, 0, 0, 0, 0, 0, 0, 0, 251, 20]
theorem known_src (M : Mem) : C 21 [] M = some (.sl (some (M.n, 0)) 18 (.known 18), M.alloc ⟨knownL.map (.int .u8), .fixed⟩) ∧ Src (M.alloc ⟨knownL.map (.int .u8), .fixed⟩) (some (M.n, 0), 18, .known 18) knownL :=
  ⟨c21 (p21_0_eq C prog.meth M), ⟨rfl, fun _ => ⟨M.n, 0, knownL, .fixed, rfl, get_alloc_self _ _, by simp, by simp [knownL], rfl, .inr ⟨18, rfl, Nat.le_refl _⟩⟩⟩⟩
theorem knownL_byt : Byt knownL := by unfold Byt knownL; decide
theorem okm_exit : Okm [(36, 0, 0, 0, 0)] [] := ⟨by simp, by simp, fun x hx => by
  simp only [List.mem_singleton] at hx
  subst hx; decide +kernel, by simp⟩
theorem pack_exit : packOr [(36, 0, 0, 0, 0)] [] = knownL := by
  unfold packOr
  rw [if_pos (chkM_zero.2 okm_exit)]
  decide +kernel
theorem up_known : upE knownL = 0 ∧ upA knownL = 0 ∧ upC knownL = [(36, 0, 0, 0, 0)] ∧ upT knownL = [] := by decide +kernel
theorem up_short : upE (knownL.take 17) = 6 ∧ upA (knownL.take 17) = 17 := by decide +kernel
theorem wfm_exit : Wfm [(36, 0, 0, 0, 0)] [] := ⟨fun x hx => by
  simp only [List.mem_singleton] at hx
  subst hx
  exact ⟨by decide, by decide, by decide, by decide, by decide⟩, by simp⟩
theorem mbox2 (M : Mem) (ca ta : SlV) : ∃ M1 M2, M.alloc ⟨[.sl none 0 (.known 0), .sl none 0 (.known 0)], .fixed⟩ = M1 ∧ M1.st M.n 0 [.sl ca.1 ca.2.1 ca.2.2, .sl ta.1 ta.2.1 ta.2.2] = some M2 ∧ M.Upto M2 ∧ M2.n = M.n + 1 ∧ M2.ldL M.n 0 = some ca ∧ M2.ldL M.n 1 = some ta := by
  obtain ⟨M1, e1, g1, u1, n1⟩ := alloc_at M ⟨[.sl none 0 (.known 0), .sl none 0 (.known 0)], .fixed⟩
  obtain ⟨M2, s2, g2, n2, b2⟩ := st_at (i := 0) (vs := [.sl ca.1 ca.2.1 ca.2.2, .sl ta.1 ta.2.1 ta.2.2]) g1 (by simp)
  simp only [overL] at g2
  refine ⟨M1, M2, e1, s2, ⟨by omega, fun o ho => by rw [b2.2 o (by omega) (by omega), u1.2 o ho]⟩, by omega, ?_, ?_⟩
  · rw [ldL_at g2]; rfl
  · rw [ldL_at g2]; rfl
theorem awake_C (M : Mem) : ∃ M', C 15 [] M = some (.bool true, M') ∧ M.Upto M' := by
  have hE := p15_0_eq C prog.meth M
  obtain ⟨M1, e1, g1, u1, n1⟩ := alloc_at M ⟨encI (36, 0, 0, 0, 0), .fixed⟩
  have e1' : M.alloc ⟨[.int .u8 36, .int .u8 0, .int .u8 0, .int .i16 0, .int .i32 0], .fixed⟩ = M1 := e1
  simp only [e1'] at hE
  have hm : Md M1 (some (M.n, 0), 1, .known 1) (none, 0, .known 0) [(36, 0, 0, 0, 0)] [] := ⟨Sl.whole (xs := [((36, 0, 0, 0, 0) : Ins)]) (kd := .fixed) encI5 g1 (by simp) rfl, [], Sl.nil _ _ _ _ _, Tbs.nil _⟩
  obtain ⟨M2, wp, c2, u2, o2, f2⟩ := Pack_C hm wfm_exit
  rw [pack_exit] at o2
  rw [chkM_zero.2 okm_exit] at c2
  have c2 : C 9 [.agg [.sl (some (M.n, 0)) 1 (.known 1), .sl none 0 (.known 0)]] M1 = _ := c2
  obtain ⟨k3, s3⟩ := known_src M2
  obtain ⟨M3, e3⟩ : ∃ M3, M2.alloc ⟨knownL.map (.int .u8), .fixed⟩ = M3 := ⟨_, rfl⟩
  rw [e3] at k3 s3
  have u3 : M2.Upto M3 := by rw [← e3]; exact Mem.Upto.alloc _ _
  obtain ⟨M4, cc, tc, c4, u4, h4⟩ := Unpack_C s3 knownL_byt (by decide)
  obtain ⟨x1, x2, x3, x4⟩ := up_known
  rw [x1, x2] at c4
  rw [x3, x4] at h4
  have c4 : C 17 [.sl (some (M2.n, 0)) 18 (.known 18)] M3 = _ := c4
  obtain ⟨M5, M6, e5, s6, u6, n6, a0, a1⟩ := mbox2 M4 cc tc
  obtain ⟨k7, s7⟩ := known_src M6
  obtain ⟨M7, e7⟩ : ∃ M7, M6.alloc ⟨knownL.map (.int .u8), .fixed⟩ = M7 := ⟨_, rfl⟩
  rw [e7] at k7 s7
  have u7 : M6.Upto M7 := by rw [← e7]; exact Mem.Upto.alloc _ _
  obtain ⟨w8, cut8, s8, l8, _⟩ := s7.to (k2 := .i64) (j := 17) (by simp) (by simp)
  have cut8 : ∀ {β : Type} (M2 : Mem) (hu : M7.Upto M2) (K : Option (Nat × Nat) → Nat → Cap → Option β), slcK false 1 (some (M6.n, 0)) 18 (.known 18) M2 none (some (.int .i64 17)) none K = K w8.1 w8.2.1 w8.2.2 := cut8
  obtain ⟨M9, cd, td, cc9, u9, h9⟩ := Unpack_C s8 (knownL_byt.take _) (by decide)
  obtain ⟨y1, y2⟩ := up_short
  rw [y1, y2] at cc9
  obtain ⟨Ma', Mb', ea, sb, ub, nb, b0, b1⟩ := mbox2 M9 cd td
  obtain ⟨kc, sc⟩ := known_src Mb'
  obtain ⟨Mc, ec⟩ : ∃ Mc, Mb'.alloc ⟨knownL.map (.int .u8), .fixed⟩ = Mc := ⟨_, rfl⟩
  rw [ec] at kc sc
  have uc : Mb'.Upto Mc := by rw [← ec]; exact Mem.Upto.alloc _ _
  have u6c : M6.Upto Mc := u7.trans (u9.trans (ub.trans uc))
  have u2c : M2.Upto Mc := u3.trans (u4.trans (u6.trans u6c))
  have hEq := EqBytes_C (o2.upto u2c).ints sc.ints (by have := o2.1; simp only [knownL, List.length_cons, List.length_nil] at this; omega)
  have dec : decide (knownL = knownL) = true := decide_eq_true rfl
  rw [dec] at hEq
  have hEq : C 13 [.sl wp.1 wp.2.1 wp.2.2, .sl (some (Mb'.n, 0)) 18 (.known 18)] Mc = _ := hEq
  have a0' := ldL_upto a0 u6c
  have a1' := ldL_upto a1 u6c
  have hm4 := h4.md.upto (u6.trans u6c)
  obtain ⟨lenc, lent⟩ := hm4.lens
  obtain ⟨p, x, hp, hx, v0, v1, v2, v3, v4⟩ := ins_ld hm4.c (i := 0) (by rw [← lenc]; decide)
  have hx0 : x = (36, 0, 0, 0, 0) := by simpa using hx.symm
  subst hx0
  have q1 : ((cc.2.1 : Int) == 1) = true := by rw [← lenc]; rfl
  have q2 : Nat.blt 0 cc.2.1 = true := by rw [← lenc]; rfl
  have q3 : ((tc.2.1 : Int) == 0) = true := by rw [← lent]; rfl
  have j0 : ((36 : Nat) : Int) = 36 := rfl
  simp only [Nat.zero_mul, Nat.add_zero, j0] at v0 v1 v2 v3 v4
  rw [c2, Option.bind_some] at hE
  simp only [Option.bind_some, List.getElem?_cons_zero, List.getElem?_cons_succ, int?_int, AVal.bool?, AVal.ptr?, AVal.sl?, AVal.tup?, AVal.agg?, AVal.ifc?, AVal.fn?, AVal.str?, List.head?_cons, List.tail_cons, List.isEmpty_nil, cond_true, cond_false, Option.isNone_some, Option.isNone_none, Bool.not_true, Bool.not_false, decide_true, decide_false, beq_self_eq_true, bne_self_eq_false, Int.reduceBEq, Int.reduceBNe, Int.cast_ofNat_Int, k7, k3, c4, e5, s6] at hE
  rw [cut8 M7 (Mem.Upto.refl _), cc9] at hE
  simp only [Option.bind_some, List.getElem?_cons_zero, List.getElem?_cons_succ, int?_int, AVal.bool?, AVal.ptr?, AVal.sl?, AVal.tup?, AVal.agg?, AVal.ifc?, AVal.fn?, AVal.str?, List.head?_cons, List.tail_cons, List.isEmpty_nil, cond_true, cond_false, Option.isNone_some, Option.isNone_none, Bool.not_true, Bool.not_false, decide_true, decide_false, beq_self_eq_true, bne_self_eq_false, Int.reduceBEq, Int.reduceBNe, Int.cast_ofNat_Int, ea, sb, kc, hEq, a0', q1, q2, hp, Nat.zero_mul, Nat.add_zero, v0, v1, v2, v3, v4, Bool.and_self, a1', q3] at hE
  exact ⟨Mc, c15 hE, u1.trans (u2.trans u2c)⟩
theorem xor_byte {x y : Int} (hx : 0 ≤ x ∧ x < 256) : 0 ≤ IntKind.wrap .u8 (((BitVec.ofInt (IntKind.bits .u8) x ^^^ BitVec.ofInt (IntKind.bits .u8) y).toNat : Nat) : Int) ∧ IntKind.wrap .u8 (((BitVec.ofInt (IntKind.bits .u8) x ^^^ BitVec.ofInt (IntKind.bits .u8) y).toNat : Nat) : Int) < 256 := by
  rw [wu8]; omega
end
end Go.Proofs.Ytmkncifbammfjaa.M
