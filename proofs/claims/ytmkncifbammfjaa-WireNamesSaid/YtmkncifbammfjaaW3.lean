import Derived.Test.YtmkncifbammfjaaW2
import Derived.Test.YtmkncifbammfjaaR
import Derived.Test.YtmkncifbammfjaaXLaw
set_option linter.unusedVariables false
set_option linter.unusedSimpArgs false
set_option linter.unnecessarySimpa false
set_option maxRecDepth 100000
namespace Go.Proofs.Ytmkncifbammfjaa.M
open Go.Abs Go.RowKit
section
variable {M M0 M' : Mem} {ca ta cb tb w : SlV} {code : List Ins} {tabs : List (List Pr)} {ys zs : List Int} {tvs : List SlV} {Ts : List (List Pr)}
theorem TCopy_C {a : Option (Nat × Nat)} {l : Nat} {c : Cap} {T : List Pr} (h : Sl M 2 encP a l c T) (hl : l * 16 ≤ 2 ^ 47) : ∃ (M' : Mem) (w : SlV), C 22 [.sl a l c] M = some (.sl w.1 w.2.1 w.2.2, M') ∧ M.Upto M' ∧ Sl M' 2 encP w.1 w.2.1 w.2.2 T ∧ ∀ o ∈ fpOf w.1, M.n ≤ o ∧ o < M'.n := by
  have hE := p22_0_eq C prog.meth a l c M
  obtain ⟨M1, a2, c2, q, r, hn, hb, hf⟩ := (Row.nil M 2 encP).cat (bytes := 16) encP2 (by omega) h (by omega) (fun o ho => by simp [fpOf] at ho)
  rw [q] at hE
  rw [List.nil_append] at r
  exact ⟨M1, (a2, 0 + l, c2), c22 hE, hb.upto (fun o _ ho => by simp [fpOf] at ho), r.sl, fun o ho => by
    have := hf o ho
    refine ⟨?_, this.2⟩
    rcases this.1 with e | e
    · simp [fpOf] at e
    · exact e⟩
structure Cs (M0 M : Mem) (m1 m2 m3 : Nat) (ca ta cb tb : SlV) (code : List Ins) (tws : List SlV) (Ts : List (List Pr)) : Prop where
  u : M0.Upto M
  g1 : M.ldL m1 1 = some ta
  g2 : M.get m2 = some ⟨[.sl none 0 (.known 0), .sl none 0 (.known 0)], .fixed⟩
  g3 : M.get m3 = some ⟨[.sl cb.1 cb.2.1 cb.2.2, .sl tb.1 tb.2.1 tb.2.2], .fixed⟩
  lc : Sl M 5 encI cb.1 cb.2.1 cb.2.2 code
  lt : Row M 1 encS tb.1 tb.2.1 tb.2.2 tws
  tv : Tbs M tws Ts
  fc : ∀ o ∈ fpOf cb.1, m3 < o ∧ o < M.n
  ft : ∀ o ∈ fpOf tb.1, m3 < o ∧ o < M.n ∧ o ∉ fpOf cb.1
  fv : ∀ w ∈ tws, ∀ o ∈ fpOf w.1, m3 < o ∧ o < M.n ∧ o ∉ fpOf tb.1
  ord : M0.n ≤ m1 ∧ m1 < m2 ∧ m2 < m3
theorem ldL_keep {mo i : Nat} {x : SlV} (h : M.ldL mo i = some x) (hg : M'.get mo = M.get mo) : M'.ldL mo i = some x := by
  unfold Mem.ldL at h ⊢
  rw [ld_same hg]; exact h
theorem copy_loop {m1 m2 m3 : Nat} (ht : Sl M0 1 encS ta.1 ta.2.1 ta.2.2 tvs) (hT : Tbs M0 tvs tabs) (hl : ∀ T ∈ tabs, T.length * 16 ≤ 2 ^ 47) (htl : ta.2.1 * 24 ≤ 2 ^ 47) :
    ∀ (d i : Nat) (M : Mem) (tb : SlV) (tws : List SlV) (Ts : List (List Pr)), i + d = ta.2.1 → tws.length = i → Ts = tabs.take i → Cs M0 M m1 m2 m3 ca ta cb tb code tws Ts →
      ∃ (M' : Mem) (tb' : SlV) (tws' : List SlV), p8_1 C prog.meth m1 m2 m3 (i : Int) M = p8_1 C prog.meth m1 m2 m3 (ta.2.1 : Int) M' ∧ Cs M0 M' m1 m2 m3 ca ta cb tb' code tws' tabs := by
  intro d
  have hlen := ht.2
  have hlen2 := hT.1
  induction d with
  | zero =>
    intro i M tb tws Ts hi hw hTs H
    obtain rfl : i = ta.2.1 := by omega
    rw [List.take_of_length_le (by omega)] at hTs
    exact ⟨M, tb, tws, rfl, by rw [← hTs]; exact H⟩
  | succ d ih =>
    intro i M tb tws Ts hi hw hTs H
    have hF := p8_1_eq C prog.meth m1 m2 m3 (i : Int) M
    obtain ⟨o1, o2, o3⟩ := H.ord
    have q : ((i : Int) < (ta.2.1 : Int)) := by omega
    have k0 : (0 : Int) ≤ (i : Int) := by omega
    have k1 : Nat.blt i ta.2.1 = true := Mem.blt_iff.2 (by omega)
    have w1 : IntKind.wrap .i64 ((i : Int) + 1) = ((i + 1 : Nat) : Int) := by rw [wrap_i64 (by omega) (by omega)]; rfl
    obtain ⟨p, tv, hp, hx, hv⟩ := tv_ld (ht.upto encS1 (by omega) H.u) (i := i) (by omega)
    have hTi := List.getElem?_eq_getElem (show i < tabs.length by omega)
    obtain ⟨T, hTe⟩ : ∃ T, tabs[i]'(by omega) = T := ⟨_, rfl⟩
    rw [hTe] at hTi
    have sT := (hT.2 i tv T hx hTi).upto encP2 (by omega) H.u
    have hTl := sT.2
    obtain ⟨M1, rb, c1, u1, l1, f1⟩ := TCopy_C sT (by rw [← hTl]; exact hl T (List.mem_of_getElem? hTi))
    have g3 := u1.get H.g3
    have hm := Mem.get_lt g3
    have hn1 := u1.1
    have hlt := H.lt.length
    obtain ⟨M3, q1, q2, q3, q4, q5⟩ := (H.lt.upto encS1 (by omega) u1).push (bytes := 24) (y := rb) (cs := [.sl rb.1 rb.2.1 rb.2.2]) encS1 (by omega) rfl (by omega)
    have g33 := (q4.2 m3 hm (fun e => by have := H.ft m3 e; omega)).trans g3
    obtain ⟨M4, s4, g4, n4, b4⟩ := st_at (i := 1) (vs := [.sl (some (M1.n + 1, 0)) (tb.2.1 + 1) (.unk 0)]) g33 (by simp)
    simp only [overL] at g4
    have t0 : M.ldL m3 1 = some tb := by rw [ldL_at H.g3]; rfl
    have t1 : M1.still m3 1 [.sl tb.1 tb.2.1 tb.2.2] = true := still1 (by rw [ld_fix g3]; rfl)
    have t2 : (M1.alloc ⟨[.sl rb.1 rb.2.1 rb.2.2], .fixed⟩).still m3 1 [.sl tb.1 tb.2.1 tb.2.2] = true := still1 (by rw [ld_alloc _ hm, ld_fix g3]; rfl)
    simp only [int?_int, rvs, Int.reduceBEq, Int.reduceBNe, Int.cast_ofNat_Int, H.g1, q, t0, k0, k1, Int.toNat_natCast, hp, Nat.mul_one, hv, c1] at hF
    rw [q1] at hF
    simp only [int?_int, rvs, Int.reduceBEq, Int.reduceBNe, Int.cast_ofNat_Int, s4, t1, t2, w1] at hF
    have f4 : ∀ o, o < M1.n → o ≠ m3 → o ∉ fpOf tb.1 → M4.get o = M1.get o := fun o h1 h2 h3 => by rw [b4.2 o (by omega) h2, q4.2 o h1 h3]
    have f5 : ∀ o, o < M.n → o ≠ m3 → o ∉ fpOf tb.1 → M4.get o = M.get o := fun o h1 h2 h3 => by rw [f4 o (by omega) h2 h3, u1.2 o h1]
    have low : ∀ o, o < m3 → M4.get o = M.get o := fun o h => f5 o (by have := Mem.get_lt H.g3; omega) (by omega) (fun e => by have := H.ft o e; omega)
    have hm3 := Mem.get_lt H.g3
    obtain ⟨M5, tb', tws', c5, H5⟩ := ih (i + 1) M4 (some (M1.n + 1, 0), tb.2.1 + 1, .unk 0) (tws ++ [rb]) (Ts ++ [T]) (by omega) (by simp [hw]) (by rw [hTs, List.take_add_one, hTi]; rfl)
      ⟨⟨by have := H.u.1; omega, fun o ho => by rw [low o (by omega), H.u.2 o ho]⟩, ldL_keep H.g1 (low m1 (by omega)), (low m2 o3).trans H.g2, g4, H.lc.same (fun p hp => by
        have := H.fc p.1 (by rw [hp]; simp [fpOf])
        exact f5 p.1 this.2 (by omega) (fun e => (H.ft p.1 e).2.2 (by rw [hp]; simp [fpOf]))), q2.same (fun o ho => by
        simp only [fpOf, List.mem_singleton] at ho
        exact b4.2 o (by omega) (by omega)), Tbs.snoc (H.tv.same (fun w hw o ho => by have := H.fv w hw o ho; exact f5 o this.2.1 (by omega) this.2.2)) (l1.same (fun p hp => by
        have := f1 p.1 (by rw [hp]; simp [fpOf])
        exact f4 p.1 this.2 (by omega) (fun e => by have := H.ft p.1 e; omega))), fun o ho => by have := H.fc o ho; omega, fun o ho => by
        simp only [fpOf, List.mem_singleton] at ho
        exact ⟨by omega, by omega, fun e => by have := H.fc o e; omega⟩, fun w hw o ho => by
        rcases List.mem_append.1 hw with hw | hw
        · have := H.fv w hw o ho; exact ⟨this.1, by omega, by simp only [fpOf, List.mem_singleton]; omega⟩
        · simp only [List.mem_singleton] at hw
          subst hw
          have := f1 o ho
          exact ⟨by omega, by omega, by simp only [fpOf, List.mem_singleton]; omega⟩, H.ord⟩
    exact ⟨M5, tb', tws', hF.trans c5, H5⟩
theorem Copy_C (h : Md M ca ta code tabs) (hl : ca.2.1 * 12 ≤ 2 ^ 47) (htl : ta.2.1 * 24 ≤ 2 ^ 47) (hT : ∀ T ∈ tabs, T.length * 16 ≤ 2 ^ 47) : ∃ (M' : Mem) (cb tb : SlV), C 8 [mv ca ta] M = some (mv cb tb, M') ∧ M.Upto M' ∧ Md M' cb tb code tabs := by
  have hE := p8_0_eq C prog.meth ca.1 ca.2.1 ca.2.2 ta.1 ta.2.1 ta.2.2 M
  obtain ⟨M1, e1, u1, n1, l0, l1⟩ := mbox M ca ta
  obtain ⟨M2, e2, g2, u2, n2⟩ := alloc_at M1 ⟨[.sl none 0 (.known 0), .sl none 0 (.known 0)], .fixed⟩
  obtain ⟨M3, e3, g3, u3, n3⟩ := alloc_at M2 ⟨[.sl none 0 (.known 0), .sl none 0 (.known 0)], .fixed⟩
  have l0' := ldL_upto l0 (u2.trans u3)
  have t0 : M3.ldL M2.n 0 = some (none, 0, .known 0) := by rw [ldL_at g3]; rfl
  obtain ⟨hc, tvs, ht, hTb⟩ := h
  have u03 : M.Upto M3 := u1.trans (u2.trans u3)
  obtain ⟨M4, a2, c2, q, r, hn, hb, hf⟩ := (Row.nil M3 5 encI).cat (bytes := 12) encI5 (by omega) (hc.upto encI5 (by omega) u03) (by omega) (fun o ho => by simp [fpOf] at ho)
  rw [List.nil_append] at r
  have u4 : M3.Upto M4 := hb.upto (fun o _ ho => by simp [fpOf] at ho)
  obtain ⟨M5, s5, g5, n5, b5⟩ := st_at (i := 0) (vs := [.sl a2 (0 + ca.2.1) c2]) (u4.get g3) (by simp)
  simp only [overL] at g5
  simp only [int?_int, rvs, Int.reduceBEq, Int.reduceBNe, Int.cast_ofNat_Int, e1, e2, e3, t0, l0'] at hE
  rw [q] at hE
  simp only [int?_int, rvs, Int.reduceBEq, Int.reduceBNe, Int.cast_ofNat_Int, s5] at hE
  have low : ∀ o, o < M2.n → M5.get o = M3.get o := fun o ho => by rw [b5.2 o (by omega) (by omega), u4.2 o (by omega)]
  have u05 : M.Upto M5 := ⟨by omega, fun o ho => by rw [low o (by omega), u03.2 o ho]⟩
  have hf' : ∀ o ∈ fpOf a2, M2.n < o ∧ o < M4.n := fun o ho => by
    have := hf o ho
    rcases this.1 with e | e
    · simp [fpOf] at e
    · omega
  have H0 : Cs M M5 M.n M1.n M2.n ca ta (a2, 0 + ca.2.1, c2) (none, 0, .known 0) code [] [] := ⟨u05, ldL_keep (ldL_upto l1 (u2.trans u3)) (low M.n (by omega)), by rw [low _ (by omega)]; exact u3.get g2, g5, r.sl.same (fun p hp => by
      have := hf' p.1 (by rw [hp]; simp [fpOf])
      exact b5.2 p.1 this.2 (by omega)), Row.nil _ _ _, Tbs.nil _, fun o ho => by have := hf' o ho; omega, fun o ho => by simp [fpOf] at ho, fun w hw => by simp at hw, Nat.le_refl _, by omega, by omega⟩
  obtain ⟨M6, tb', tws, c6, H6⟩ := copy_loop ht hTb hT htl ta.2.1 0 M5 _ [] [] (by omega) rfl (by rw [List.take_zero]) H0
  have hF := p8_1_eq C prog.meth M.n M1.n M2.n (ta.2.1 : Int) M6
  have q1 : ¬ ((ta.2.1 : Int) < (ta.2.1 : Int)) := by omega
  have x0 : M6.ldL M2.n 0 = some (a2, 0 + ca.2.1, c2) := by rw [ldL_at H6.g3]; rfl
  have x1 : M6.ldL M2.n 1 = some tb' := by rw [ldL_at H6.g3]; rfl
  obtain ⟨M7, s7, g7, n7, b7⟩ := st_at (i := 0) (vs := [.sl a2 (0 + ca.2.1) c2, .sl tb'.1 tb'.2.1 tb'.2.2]) H6.g2 (by simp)
  simp only [overL] at g7
  have y0 : M7.ldL M1.n 0 = some (a2, 0 + ca.2.1, c2) := by rw [ldL_at g7]; rfl
  have y1 : M7.ldL M1.n 1 = some tb' := by rw [ldL_at g7]; rfl
  simp only [int?_int, rvs, Int.reduceBEq, Int.reduceBNe, Int.cast_ofNat_Int, H6.g1, q1, x0, x1, s7, y0, y1] at hF
  refine ⟨M7, (a2, 0 + ca.2.1, c2), tb', c8 (hE.trans (c6.trans hF)), ⟨by have := H6.u.1; omega, fun o ho => by rw [b7.2 o (by have := H6.u.1; omega) (by omega), H6.u.2 o ho]⟩, H6.lc.same (fun p hp => ?_), tws, H6.lt.sl.same (fun p hp => ?_), H6.tv.same (fun w hw o ho => ?_)⟩
  · have := H6.fc p.1 (by rw [hp]; simp [fpOf]); exact b7.2 p.1 this.2 (by omega)
  · have := H6.ft p.1 (by rw [hp]; simp [fpOf]); exact b7.2 p.1 this.2.1 (by omega)
  · have := H6.fv w hw o ho; exact b7.2 o this.2.1 (by omega)
theorem TSame_C {a a' : Option (Nat × Nat)} {l l' : Nat} {c c' : Cap} {T : List Pr} (h : Sl M 2 encP a l c T) (h' : Sl M 2 encP a' l' c' T) (hl : l < 2 ^ 60) : C 33 [.sl a l c, .sl a' l' c'] M = some (.bool true, M) := by
  have hE := p33_0_eq C prog.meth a l c a' l' c' M
  have e1 := h.2
  have e2 := h'.2
  have q : ((l : Int) != (l' : Int)) = false := by simp only [bne_eq_false_iff_eq]; omega
  simp only [int?_int, rvs, Int.reduceBEq, Int.reduceBNe, Int.cast_ofNat_Int, q] at hE
  have loop : ∀ (d i : Nat), i + d = l → p33_1 C prog.meth a l c a' l' c' (i : Int) M = some (.bool true, M) := by
    intro d
    induction d with
    | zero =>
      intro i hi
      have hF := p33_1_eq C prog.meth a l c a' l' c' (i : Int) M
      have q : ¬ ((i : Int) < (l : Int)) := by omega
      simp only [int?_int, rvs, Int.reduceBEq, Int.reduceBNe, Int.cast_ofNat_Int, q] at hF
      exact hF
    | succ d ih =>
      intro i hi
      have hF := p33_1_eq C prog.meth a l c a' l' c' (i : Int) M
      have q : ((i : Int) < (l : Int)) := by omega
      have k0 : (0 : Int) ≤ (i : Int) := by omega
      have k1 : Nat.blt i l = true := Mem.blt_iff.2 (by omega)
      have k2 : Nat.blt i l' = true := Mem.blt_iff.2 (by omega)
      have w1 : IntKind.wrap .i64 ((i : Int) + 1) = ((i + 1 : Nat) : Int) := by rw [wrap_i64 (by omega) (by omega)]; rfl
      obtain ⟨p, hp, v0, v1⟩ := pr_ld h (i := i) (by omega)
      obtain ⟨p', hp', v0', v1'⟩ := pr_ld h' (i := i) (by omega)
      simp only [int?_int, rvs, Int.reduceBEq, Int.reduceBNe, Int.cast_ofNat_Int, q, k0, k1, k2, Int.toNat_natCast, hp, hp', v0, v1, v0', v1', Bool.and_self, w1] at hF
      rw [hF]; exact ih (i + 1) (by omega)
  exact c33 (hE.trans (loop l 0 (by omega)))
theorem WSame_C (h : Md M ca ta code tabs) (h' : Md M cb tb code tabs) (hl : ca.2.1 < 2 ^ 60) (htl : ta.2.1 < 2 ^ 60) (hT : ∀ T ∈ tabs, T.length < 2 ^ 60) : ∃ M', C 14 [mv ca ta, mv cb tb] M = some (.bool true, M') ∧ M.Upto M' := by
  have hE := p14_0_eq C prog.meth ca.1 ca.2.1 ca.2.2 ta.1 ta.2.1 ta.2.2 cb.1 cb.2.1 cb.2.2 tb.1 tb.2.1 tb.2.2 M
  obtain ⟨M1, e1, u1, n1, l0, l1⟩ := mbox M ca ta
  obtain ⟨M2, e2, u2, n2, k0, k1⟩ := mbox M1 cb tb
  have l0' := ldL_upto l0 u2
  have l1' := ldL_upto l1 u2
  obtain ⟨a1, a2⟩ := h.lens
  obtain ⟨a3, a4⟩ := h'.lens
  have q1 : ((ca.2.1 : Int) != (cb.2.1 : Int)) = false := by simp only [bne_eq_false_iff_eq]; omega
  have q2 : ((ta.2.1 : Int) != (tb.2.1 : Int)) = false := by simp only [bne_eq_false_iff_eq]; omega
  simp only [int?_int, rvs, Int.reduceBEq, Int.reduceBNe, Int.cast_ofNat_Int, e1, e2, l0', k0, q1, l1', k1, q2] at hE
  have hF := p14_1_eq C prog.meth M.n M1.n M2
  obtain ⟨hc, tvs, ht, hTb⟩ := h.upto (u1.trans u2)
  obtain ⟨hc', tvs', ht', hTb'⟩ := h'.upto (u1.trans u2)
  have b1 := ht.2
  have b2 := hTb.1
  have b3 := ht'.2
  have b4 := hTb'.1
  have loop3 : ∀ (d i : Nat), i + d = ta.2.1 → p14_3 C prog.meth M.n M1.n (i : Int) M2 = some (.bool true, M2) := by
    intro d
    induction d with
    | zero =>
      intro i hi
      have hG := p14_3_eq C prog.meth M.n M1.n (i : Int) M2
      have q : ¬ ((i : Int) < (ta.2.1 : Int)) := by omega
      simp only [int?_int, rvs, Int.reduceBEq, Int.reduceBNe, Int.cast_ofNat_Int, l1', q] at hG
      exact hG
    | succ d ih =>
      intro i hi
      have hG := p14_3_eq C prog.meth M.n M1.n (i : Int) M2
      have q : ((i : Int) < (ta.2.1 : Int)) := by omega
      have z0 : (0 : Int) ≤ (i : Int) := by omega
      have z1 : Nat.blt i ta.2.1 = true := Mem.blt_iff.2 (by omega)
      have z2 : Nat.blt i tb.2.1 = true := Mem.blt_iff.2 (by omega)
      have w1 : IntKind.wrap .i64 ((i : Int) + 1) = ((i + 1 : Nat) : Int) := by rw [wrap_i64 (by omega) (by omega)]; rfl
      obtain ⟨p, x, hp, hx, hv⟩ := tv_ld ht (i := i) (by omega)
      obtain ⟨p', x', hp', hx', hv'⟩ := tv_ld ht' (i := i) (by omega)
      have hTi := List.getElem?_eq_getElem (show i < tabs.length by omega)
      have s1 := hTb.2 i x _ hx hTi
      have s2 := hTb'.2 i x' _ hx' hTi
      have cT := TSame_C s1 s2 (by rw [← s1.2]; exact hT _ (List.mem_of_getElem? hTi))
      simp only [int?_int, rvs, Int.reduceBEq, Int.reduceBNe, Int.cast_ofNat_Int, l1', k1, q, z0, z1, z2, Int.toNat_natCast, hp, hp', Nat.mul_one, hv, hv', cT, w1] at hG
      rw [hG]; exact ih (i + 1) (by omega)
  have loop2 : ∀ (d i : Nat), i + d = ca.2.1 → p14_2 C prog.meth M.n M1.n (i : Int) M2 = some (.bool true, M2) := by
    intro d
    induction d with
    | zero =>
      intro i hi
      have hG := p14_2_eq C prog.meth M.n M1.n (i : Int) M2
      have q : ¬ ((i : Int) < (ca.2.1 : Int)) := by omega
      simp only [int?_int, rvs, Int.reduceBEq, Int.reduceBNe, Int.cast_ofNat_Int, l0', q] at hG
      exact hG.trans (loop3 ta.2.1 0 (by omega))
    | succ d ih =>
      intro i hi
      have hG := p14_2_eq C prog.meth M.n M1.n (i : Int) M2
      have q : ((i : Int) < (ca.2.1 : Int)) := by omega
      have z0 : (0 : Int) ≤ (i : Int) := by omega
      have z1 : Nat.blt i ca.2.1 = true := Mem.blt_iff.2 (by omega)
      have z2 : Nat.blt i cb.2.1 = true := Mem.blt_iff.2 (by omega)
      have w1 : IntKind.wrap .i64 ((i : Int) + 1) = ((i + 1 : Nat) : Int) := by rw [wrap_i64 (by omega) (by omega)]; rfl
      obtain ⟨p, x, hp, hx, v0, v1, v2, v3, v4⟩ := ins_ld hc (i := i) (by omega)
      obtain ⟨p', x', hp', hx', v0', v1', v2', v3', v4'⟩ := ins_ld hc' (i := i) (by omega)
      obtain rfl : x = x' := by rw [hx] at hx'; exact Option.some.inj hx'
      simp only [int?_int, rvs, Int.reduceBEq, Int.reduceBNe, Int.cast_ofNat_Int, l0', k0, q, z0, z1, z2, Int.toNat_natCast, hp, hp', v0, v1, v2, v3, v4, v0', v1', v2', v3', v4', Bool.and_self, w1] at hG
      rw [hG]; exact ih (i + 1) (by omega)
  exact ⟨M2, c14 (hE.trans (hF.trans (loop2 ca.2.1 0 (by omega)))), u1.trans u2⟩
theorem same_C (h : Md M ca ta code tabs) (h' : Md M cb tb code tabs) (hl : ca.2.1 < 2 ^ 60) (htl : ta.2.1 < 2 ^ 60) (hT : ∀ T ∈ tabs, T.length < 2 ^ 60) : ∃ M', C 19 [mv ca ta, mv cb tb] M = some (.bool true, M') ∧ M.Upto M' := by
  have hE := p19_0_eq C prog.meth ca.1 ca.2.1 ca.2.2 ta.1 ta.2.1 ta.2.2 cb.1 cb.2.1 cb.2.2 tb.1 tb.2.1 tb.2.2 M
  obtain ⟨M1, e1, u1, n1, l0, l1⟩ := mbox M ca ta
  obtain ⟨M2, e2, u2, n2, k0, k1⟩ := mbox M1 cb tb
  have l0' := ldL_upto l0 u2
  have l1' := ldL_upto l1 u2
  obtain ⟨a1, a2⟩ := h.lens
  obtain ⟨a3, a4⟩ := h'.lens
  have q1 : ((ca.2.1 : Int) != (cb.2.1 : Int)) = false := by simp only [bne_eq_false_iff_eq]; omega
  have q2 : ((ta.2.1 : Int) != (tb.2.1 : Int)) = false := by simp only [bne_eq_false_iff_eq]; omega
  simp only [int?_int, rvs, Int.reduceBEq, Int.reduceBNe, Int.cast_ofNat_Int, e1, e2, l0', k0, q1, l1', k1, q2] at hE
  have hF := p19_1_eq C prog.meth M.n M1.n M2
  obtain ⟨hc, tvs, ht, hTb⟩ := h.upto (u1.trans u2)
  obtain ⟨hc', tvs', ht', hTb'⟩ := h'.upto (u1.trans u2)
  have b1 := ht.2
  have b2 := hTb.1
  have b3 := ht'.2
  have b4 := hTb'.1
  have loop3 : ∀ (d i : Nat), i + d = ta.2.1 → p19_3 C prog.meth M.n M1.n (i : Int) M2 = some (.bool true, M2) := by
    intro d
    induction d with
    | zero =>
      intro i hi
      have hG := p19_3_eq C prog.meth M.n M1.n (i : Int) M2
      have q : ¬ ((i : Int) < (ta.2.1 : Int)) := by omega
      simp only [int?_int, rvs, Int.reduceBEq, Int.reduceBNe, Int.cast_ofNat_Int, l1', q] at hG
      exact hG
    | succ d ih =>
      intro i hi
      have hG := p19_3_eq C prog.meth M.n M1.n (i : Int) M2
      have q : ((i : Int) < (ta.2.1 : Int)) := by omega
      have z0 : (0 : Int) ≤ (i : Int) := by omega
      have z1 : Nat.blt i ta.2.1 = true := Mem.blt_iff.2 (by omega)
      have z2 : Nat.blt i tb.2.1 = true := Mem.blt_iff.2 (by omega)
      have w1 : IntKind.wrap .i64 ((i : Int) + 1) = ((i + 1 : Nat) : Int) := by rw [wrap_i64 (by omega) (by omega)]; rfl
      obtain ⟨p, x, hp, hx, hv⟩ := tv_ld ht (i := i) (by omega)
      obtain ⟨p', x', hp', hx', hv'⟩ := tv_ld ht' (i := i) (by omega)
      have hTi := List.getElem?_eq_getElem (show i < tabs.length by omega)
      have s1 := hTb.2 i x _ hx hTi
      have s2 := hTb'.2 i x' _ hx' hTi
      have sl1 := s1.2
      have sl2 := s2.2
      have hTl := hT _ (List.mem_of_getElem? hTi)
      have q3 : ((x.2.1 : Int) != (x'.2.1 : Int)) = false := by simp only [bne_eq_false_iff_eq]; omega
      simp only [int?_int, rvs, Int.reduceBEq, Int.reduceBNe, Int.cast_ofNat_Int, l1', k1, q, z0, z1, z2, Int.toNat_natCast, hp, hp', Nat.mul_one, hv, hv', q3] at hG
      have loop4 : ∀ (e k : Nat), k + e = x.2.1 → p19_4 C prog.meth M.n M1.n (i : Int) (k : Int) M2 = p19_3 C prog.meth M.n M1.n ((i + 1 : Nat) : Int) M2 := by
        intro e
        induction e with
        | zero =>
          intro k hk
          have hH := p19_4_eq C prog.meth M.n M1.n (i : Int) (k : Int) M2
          have q : ¬ ((k : Int) < (x.2.1 : Int)) := by omega
          simp only [int?_int, rvs, Int.reduceBEq, Int.reduceBNe, Int.cast_ofNat_Int, l1', z0, z1, Int.toNat_natCast, hp, Nat.mul_one, hv, q, w1] at hH
          exact hH
        | succ e ih2 =>
          intro k hk
          have hH := p19_4_eq C prog.meth M.n M1.n (i : Int) (k : Int) M2
          have q : ((k : Int) < (x.2.1 : Int)) := by omega
          have y0 : (0 : Int) ≤ (k : Int) := by omega
          have y1 : Nat.blt k x.2.1 = true := Mem.blt_iff.2 (by omega)
          have y2 : Nat.blt k x'.2.1 = true := Mem.blt_iff.2 (by omega)
          have w2 : IntKind.wrap .i64 ((k : Int) + 1) = ((k + 1 : Nat) : Int) := by rw [wrap_i64 (by omega) (by omega)]; rfl
          obtain ⟨r, hr, v0, v1⟩ := pr_ld s1 (i := k) (by omega)
          obtain ⟨r', hr', v0', v1'⟩ := pr_ld s2 (i := k) (by omega)
          simp only [int?_int, rvs, Int.reduceBEq, Int.reduceBNe, Int.cast_ofNat_Int, l1', k1, z0, z1, z2, Int.toNat_natCast, hp, hp', Nat.mul_one, hv, hv', q, y0, y1, y2, hr, hr', v0, v1, v0', v1', Bool.and_self, w2] at hH
          rw [hH]; exact ih2 (k + 1) (by omega)
      exact hG.trans ((loop4 x.2.1 0 (by omega)).trans (ih (i + 1) (by omega)))
  have loop2 : ∀ (d i : Nat), i + d = ca.2.1 → p19_2 C prog.meth M.n M1.n (i : Int) M2 = some (.bool true, M2) := by
    intro d
    induction d with
    | zero =>
      intro i hi
      have hG := p19_2_eq C prog.meth M.n M1.n (i : Int) M2
      have q : ¬ ((i : Int) < (ca.2.1 : Int)) := by omega
      simp only [int?_int, rvs, Int.reduceBEq, Int.reduceBNe, Int.cast_ofNat_Int, l0', q] at hG
      exact hG.trans (loop3 ta.2.1 0 (by omega))
    | succ d ih =>
      intro i hi
      have hG := p19_2_eq C prog.meth M.n M1.n (i : Int) M2
      have q : ((i : Int) < (ca.2.1 : Int)) := by omega
      have z0 : (0 : Int) ≤ (i : Int) := by omega
      have z1 : Nat.blt i ca.2.1 = true := Mem.blt_iff.2 (by omega)
      have z2 : Nat.blt i cb.2.1 = true := Mem.blt_iff.2 (by omega)
      have w1 : IntKind.wrap .i64 ((i : Int) + 1) = ((i + 1 : Nat) : Int) := by rw [wrap_i64 (by omega) (by omega)]; rfl
      obtain ⟨p, x, hp, hx, v0, v1, v2, v3, v4⟩ := ins_ld hc (i := i) (by omega)
      obtain ⟨p', x', hp', hx', v0', v1', v2', v3', v4'⟩ := ins_ld hc' (i := i) (by omega)
      obtain rfl : x = x' := by rw [hx] at hx'; exact Option.some.inj hx'
      simp only [int?_int, rvs, Int.reduceBEq, Int.reduceBNe, Int.cast_ofNat_Int, l0', k0, q, z0, z1, z2, Int.toNat_natCast, hp, hp', v0, v1, v2, v3, v4, v0', v1', v2', v3', v4', Bool.and_self, w1] at hG
      rw [hG]; exact ih (i + 1) (by omega)
  exact ⟨M2, c19 (hE.trans (hF.trans (loop2 ca.2.1 0 (by omega)))), u1.trans u2⟩
end
end Go.Proofs.Ytmkncifbammfjaa.M
namespace Go.Proofs.Ytmkncifbammfjaa.M
open Go.Abs Go.RowKit
section
variable {M M0 M' : Mem} {ca ta cb tb w : SlV} {code : List Ins} {tabs : List (List Pr)} {ys zs : List Int} {tvs : List SlV} {Ts : List (List Pr)}
structure Arg (M : Mem) (ca ta : SlV) (code : List Ins) (tabs : List (List Pr)) : Prop where
  m : Md M ca ta code tabs
  w : Wfm code tabs
  lc : ca.2.1 * 12 ≤ reachBytes
  lt : ta.2.1 * 24 ≤ reachBytes
  lp : ∀ T ∈ tabs, T.length * 16 ≤ reachBytes
def knownL : List Int := [115, 112, 108, 121, 1, 0, 0, 1, 36, 0, 0, 0, 0, 0, 0, 0, 251, 20]
theorem known_src (M : Mem) : C 21 [] M = some (.sl (some (M.n, 0)) 18 (.known 18), M.alloc ⟨knownL.map (.int .u8), .fixed⟩) ∧ Src (M.alloc ⟨knownL.map (.int .u8), .fixed⟩) (some (M.n, 0), 18, .known 18) knownL :=
  ⟨c21 (p21_0_eq C prog.meth M), ⟨rfl, fun _ => ⟨M.n, 0, knownL, .fixed, rfl, get_alloc_self _ _, by simp, by simp [knownL], rfl, .inr ⟨18, rfl, Nat.le_refl _⟩⟩⟩⟩
theorem knownL_byt : Byt knownL := by unfold Byt knownL; decide
theorem okm_exit : Okm [(36, 0, 0, 0, 0)] [] := ⟨by simp, by simp, fun x hx => by
  simp only [List.mem_singleton] at hx
  subst hx; decide +kernel, by simp⟩
theorem pack_exit : packOr [(36, 0, 0, 0, 0)] [] = knownL := by
  unfold packOr
  rw [if_pos (chkM_zero.2 okm_exit)]
  decide +kernel
theorem up_known : upE knownL = 0 ∧ upA knownL = 0 ∧ upC knownL = [(36, 0, 0, 0, 0)] ∧ upT knownL = [] := by decide +kernel
theorem up_short : upE (knownL.take 17) = 6 ∧ upA (knownL.take 17) = 17 := by decide +kernel
theorem wfm_exit : Wfm [(36, 0, 0, 0, 0)] [] := ⟨fun x hx => by
  simp only [List.mem_singleton] at hx
  subst hx
  exact ⟨by decide, by decide, by decide, by decide, by decide⟩, by simp⟩
theorem mbox2 (M : Mem) (ca ta : SlV) : ∃ M1 M2, M.alloc ⟨[.sl none 0 (.known 0), .sl none 0 (.known 0)], .fixed⟩ = M1 ∧ M1.st M.n 0 [.sl ca.1 ca.2.1 ca.2.2, .sl ta.1 ta.2.1 ta.2.2] = some M2 ∧ M.Upto M2 ∧ M2.n = M.n + 1 ∧ M2.ldL M.n 0 = some ca ∧ M2.ldL M.n 1 = some ta := by
  obtain ⟨M1, e1, g1, u1, n1⟩ := alloc_at M ⟨[.sl none 0 (.known 0), .sl none 0 (.known 0)], .fixed⟩
  obtain ⟨M2, s2, g2, n2, b2⟩ := st_at (i := 0) (vs := [.sl ca.1 ca.2.1 ca.2.2, .sl ta.1 ta.2.1 ta.2.2]) g1 (by simp)
  simp only [overL] at g2
  refine ⟨M1, M2, e1, s2, ⟨by omega, fun o ho => by rw [b2.2 o (by omega) (by omega), u1.2 o ho]⟩, by omega, ?_, ?_⟩
  · rw [ldL_at g2]; rfl
  · rw [ldL_at g2]; rfl
theorem awake_C (M : Mem) : ∃ M', C 15 [] M = some (.bool true, M') ∧ M.Upto M' := by
  have hE := p15_0_eq C prog.meth M
  obtain ⟨M1, e1, g1, u1, n1⟩ := alloc_at M ⟨encI (36, 0, 0, 0, 0), .fixed⟩
  have e1' : M.alloc ⟨[.int .u8 36, .int .u8 0, .int .u8 0, .int .i16 0, .int .i32 0], .fixed⟩ = M1 := e1
  simp only [e1'] at hE
  have hm : Md M1 (some (M.n, 0), 1, .known 1) (none, 0, .known 0) [(36, 0, 0, 0, 0)] [] := ⟨Sl.whole (xs := [((36, 0, 0, 0, 0) : Ins)]) (kd := .fixed) encI5 g1 (by simp) rfl, [], Sl.nil _ _ _ _ _, Tbs.nil _⟩
  obtain ⟨M2, wp, c2, u2, o2, f2⟩ := Pack_C hm wfm_exit
  rw [pack_exit] at o2
  rw [chkM_zero.2 okm_exit] at c2
  have c2 : C 9 [.agg [.sl (some (M.n, 0)) 1 (.known 1), .sl none 0 (.known 0)]] M1 = _ := c2
  obtain ⟨k3, s3⟩ := known_src M2
  obtain ⟨M3, e3⟩ : ∃ M3, M2.alloc ⟨knownL.map (.int .u8), .fixed⟩ = M3 := ⟨_, rfl⟩
  rw [e3] at k3 s3
  have u3 : M2.Upto M3 := by rw [← e3]; exact Mem.Upto.alloc _ _
  obtain ⟨M4, cc, tc, c4, u4, h4⟩ := Unpack_C s3 knownL_byt (by decide)
  obtain ⟨x1, x2, x3, x4⟩ := up_known
  rw [x1, x2] at c4
  rw [x3, x4] at h4
  have c4 : C 17 [.sl (some (M2.n, 0)) 18 (.known 18)] M3 = _ := c4
  obtain ⟨M5, M6, e5, s6, u6, n6, a0, a1⟩ := mbox2 M4 cc tc
  obtain ⟨k7, s7⟩ := known_src M6
  obtain ⟨M7, e7⟩ : ∃ M7, M6.alloc ⟨knownL.map (.int .u8), .fixed⟩ = M7 := ⟨_, rfl⟩
  rw [e7] at k7 s7
  have u7 : M6.Upto M7 := by rw [← e7]; exact Mem.Upto.alloc _ _
  obtain ⟨w8, cut8, s8, l8, _⟩ := s7.to (k2 := .i64) (j := 17) (by simp) (by simp)
  have cut8 : ∀ {β : Type} (M2 : Mem) (hu : M7.Upto M2) (K : Option (Nat × Nat) → Nat → Cap → Option β), slcK false 1 (some (M6.n, 0)) 18 (.known 18) M2 none (some (.int .i64 17)) none K = K w8.1 w8.2.1 w8.2.2 := cut8
  obtain ⟨M9, cd, td, cc9, u9, h9⟩ := Unpack_C s8 (knownL_byt.take _) (by decide)
  obtain ⟨y1, y2⟩ := up_short
  rw [y1, y2] at cc9
  obtain ⟨Ma', Mb', ea, sb, ub, nb, b0, b1⟩ := mbox2 M9 cd td
  obtain ⟨kc, sc⟩ := known_src Mb'
  obtain ⟨Mc, ec⟩ : ∃ Mc, Mb'.alloc ⟨knownL.map (.int .u8), .fixed⟩ = Mc := ⟨_, rfl⟩
  rw [ec] at kc sc
  have uc : Mb'.Upto Mc := by rw [← ec]; exact Mem.Upto.alloc _ _
  have u6c : M6.Upto Mc := u7.trans (u9.trans (ub.trans uc))
  have u2c : M2.Upto Mc := u3.trans (u4.trans (u6.trans u6c))
  have hEq := EqBytes_C (o2.upto u2c).ints sc.ints (by have := o2.1; simp only [knownL, List.length_cons, List.length_nil] at this; omega)
  have dec : decide (knownL = knownL) = true := decide_eq_true rfl
  rw [dec] at hEq
  have hEq : C 13 [.sl wp.1 wp.2.1 wp.2.2, .sl (some (Mb'.n, 0)) 18 (.known 18)] Mc = _ := hEq
  have a0' := ldL_upto a0 u6c
  have a1' := ldL_upto a1 u6c
  have hm4 := h4.md.upto (u6.trans u6c)
  obtain ⟨lenc, lent⟩ := hm4.lens
  obtain ⟨p, x, hp, hx, v0, v1, v2, v3, v4⟩ := ins_ld hm4.c (i := 0) (by rw [← lenc]; decide)
  have hx0 : x = (36, 0, 0, 0, 0) := by simpa using hx.symm
  subst hx0
  have q1 : ((cc.2.1 : Int) == 1) = true := by rw [← lenc]; rfl
  have q2 : Nat.blt 0 cc.2.1 = true := by rw [← lenc]; rfl
  have q3 : ((tc.2.1 : Int) == 0) = true := by rw [← lent]; rfl
  have j0 : ((36 : Nat) : Int) = 36 := rfl
  simp only [Nat.zero_mul, Nat.add_zero, j0] at v0 v1 v2 v3 v4
  rw [c2, Option.bind_some] at hE
  simp only [int?_int, rvs, Int.reduceBEq, Int.reduceBNe, Int.cast_ofNat_Int, k7, k3, c4, e5, s6] at hE
  rw [cut8 M7 (Mem.Upto.refl _), cc9] at hE
  simp only [int?_int, rvs, Int.reduceBEq, Int.reduceBNe, Int.cast_ofNat_Int, ea, sb, kc, hEq, a0', q1, q2, hp, Nat.zero_mul, Nat.add_zero, v0, v1, v2, v3, v4, Bool.and_self, a1', q3] at hE
  exact ⟨Mc, c15 hE, u1.trans (u2.trans u2c)⟩
theorem CopyB {v : SlV} {xs : List Int} (h : Src M v xs) (hl : xs.length ≤ 140737488351232) : ∃ (M1 : Mem) (w : SlV), C 16 [.sl v.1 v.2.1 v.2.2] M = some (.sl w.1 w.2.1 w.2.2, M1) ∧ OwnK .u8 M1 w xs ∧ M.Upto M1 ∧ (∀ o ∈ fpS w, M.n ≤ o ∧ o < M1.n) ∧ (w.2.1 = 0 → w.2.2 = .known 0) := by
  have hxl := h.len
  have cb := CopyBytes_C h.ints (by omega)
  by_cases h0 : v.2.1 = 0
  · rw [if_pos h0] at cb
    have : xs = [] := List.length_eq_zero_iff.1 (by omega)
    subst this
    exact ⟨M, (none, 0, .known 0), cb, OwnK.nil _ _, Mem.Upto.refl _, fun o ho => by rw [fpS_zero rfl] at ho; simp at ho, fun _ => rfl⟩
  · rw [if_neg h0] at cb
    have ho : OwnK .u8 (M.alloc ⟨xs.map (.int .u8), .grow 1⟩) (some (M.n, 0), v.2.1, .unk 0) xs := ⟨hxl, fun _ => ⟨M.n, rfl, rfl, get_alloc_self _ _⟩⟩
    exact ⟨_, (some (M.n, 0), v.2.1, .unk 0), cb, ho, Mem.Upto.alloc _ _, fun o ho' => ⟨by
      rw [fpS_own rfl (by simp only; omega)] at ho'
      simp only [List.mem_singleton] at ho'
      omega, ho.lt o ho'⟩, fun e => absurd e h0⟩
theorem WireUnpacks_C {v : SlV} {xs : List Int} (h : Src M v xs) (hb : Byt xs) (hl : xs.length ≤ 140737488351232) : ∃ M', C 4 [.sl v.1 v.2.1 v.2.2] M = some (.bool true, M') ∧ M.Upto M' := by
  have hE := p4_0_eq C prog.meth v.1 v.2.1 v.2.2 M
  have hxl := h.len
  obtain ⟨M1, w, c1, o1, u1, f1', _⟩ := CopyB h hl
  have f1 : ∀ o ∈ fpS w, o < M1.n := fun o ho => (f1' o ho).2
  have hwl := o1.1
  rw [c1, Option.bind_some] at hE
  simp only [int?_int, rvs, Int.reduceBEq, Int.reduceBNe, Int.cast_ofNat_Int] at hE
  obtain ⟨M2, ca, ta, c2, u2, n2⟩ := Unpack_C (Src.own o1) hb hl
  rw [c2, Option.bind_some] at hE
  simp only [int?_int, rvs, Int.reduceBEq, Int.reduceBNe, Int.cast_ofNat_Int] at hE
  obtain ⟨M3, M4, e3, s4, u4, n4, a0, a1⟩ := mbox2 M2 ca ta
  have u14 : M.Upto M4 := u1.trans (u2.trans u4)
  obtain ⟨M5, cb, tb, c5, u5, n5⟩ := RUnpack_C (h.upto u14) hb hl
  simp only [int?_int, rvs, Int.reduceBEq, Int.reduceBNe, Int.cast_ofNat_Int, e3, s4] at hE
  rw [c5, Option.bind_some] at hE
  simp only [int?_int, rvs, Int.reduceBEq, Int.reduceBNe, Int.cast_ofNat_Int] at hE
  obtain ⟨M6, M7, e6, s7, u7, n7, b0, b1⟩ := mbox2 M5 cb tb
  have u47 := u5.trans u7
  have a0' := ldL_upto a0 u47
  have a1' := ldL_upto a1 u47
  have q1 : (upA xs != upA xs) = false := by simp
  have q2 : (upE xs != upE xs) = false := by simp
  have hm2 := n2.md.upto (u4.trans u47)
  have hm5 := n5.md.upto u7
  have okUp : upC xs = [] ∨ Mok (upC xs) (upT xs) := by
    unfold upC upT
    by_cases hz : upE xs = 0
    · rw [if_pos hz, if_pos hz]; exact .inr (pack_unp hb hz).1
    · rw [if_neg hz]; exact .inl rfl
  have lens : ∀ {M : Mem} {ca ta : SlV}, Md M ca ta (upC xs) (upT xs) → ca.2.1 < 2 ^ 60 ∧ ta.2.1 < 2 ^ 60 ∧ ∀ T ∈ upT xs, T.length < 2 ^ 60 := fun hm => by
    obtain ⟨m1, m2⟩ := hm.lens
    unfold upC upT at *
    by_cases hz : upE xs = 0
    · rw [if_pos hz] at *
      have hk := (pack_unp hb hz).1.m
      have k1 := hk.nc
      have k2 := hk.nt
      exact ⟨by omega, by omega, fun T hT => by have := (hk.tok T hT).1; omega⟩
    · rw [if_neg hz] at *
      simp only [List.length_nil] at m1 m2
      exact ⟨by omega, by omega, fun T hT => by simp at hT⟩
  obtain ⟨z1, z2, z3⟩ := lens hm2
  obtain ⟨M8, c8, u8⟩ := WSame_C hm2 hm5 z1 z2 z3
  have c8 : C 14 [.agg [.sl ca.1 ca.2.1 ca.2.2, .sl ta.1 ta.2.1 ta.2.2], .agg [.sl cb.1 cb.2.1 cb.2.2, .sl tb.1 tb.2.1 tb.2.2]] M7 = _ := c8
  have u18 : M1.Upto M8 := u2.trans (u4.trans (u47.trans u8))
  have hEq := EqBytes_C (o1.upto u18).ints (h.upto (u1.trans u18)).ints (by omega)
  rw [decide_eq_true rfl] at hEq
  simp only [int?_int, rvs, Int.reduceBEq, Int.reduceBNe, Int.cast_ofNat_Int, e6, s7, q1, q2, a0', a1', b0, b1, c8, hEq] at hE
  have hF := p4_1_eq C prog.meth w.1 w.2.1 w.2.2 M2.n M5.n M8
  have b0' := ldL_upto b0 u8
  have b1' := ldL_upto b1 u8
  have a0'' := ldL_upto a0' u8
  have a1'' := ldL_upto a1' u8
  have hm2' := n2
  have loop : ∀ (d i : Nat) (Mx : Mem) (zs : List Int), i + d = w.2.1 → OwnK .u8 Mx w zs → (∀ o, o < M8.n → o ∉ fpS w → Mx.get o = M8.get o) → M8.n ≤ Mx.n → ∃ M', p4_2 C prog.meth w.1 w.2.1 w.2.2 M2.n M5.n (i : Int) Mx = some (.bool true, M') ∧ M8.n ≤ M'.n ∧ ∀ o, o < M8.n → o ∉ fpS w → M'.get o = M8.get o := by
    intro d
    induction d with
    | zero =>
      intro i Mx zs hi ho hk hn
      have hG := p4_2_eq C prog.meth w.1 w.2.1 w.2.2 M2.n M5.n (i : Int) Mx
      have q : ¬ ((i : Int) < (w.2.1 : Int)) := by omega
      have hb2 := u2.1
      have hb4 := u4.1
      have hb5 := u5.1
      have hb7 := u7.1
      have hb8 := u8.1
      have k1 := ldL_keep a0'' (hk M2.n (by omega) (fun e => by have := f1 _ e; omega))
      have k2 := ldL_keep a1'' (hk M2.n (by omega) (fun e => by have := f1 _ e; omega))
      have k3 := ldL_keep b0' (hk M5.n (by omega) (fun e => by have := f1 _ e; omega))
      have k4 := ldL_keep b1' (hk M5.n (by omega) (fun e => by have := f1 _ e; omega))
      have hmA : Md Mx ca ta (upC xs) (upT xs) := n2 Mx (fun o h1 h2 => by rw [hk o (by omega) (fun e => by have := f1 o e; omega), u8.2 o (by omega), u47.2 o (by omega), u4.2 o h2])
      have hmB : Md Mx cb tb (upC xs) (upT xs) := n5 Mx (fun o h1 h2 => by rw [hk o (by omega) (fun e => by have := f1 o e; omega), u8.2 o (by omega), u7.2 o h2])
      obtain ⟨z1, z2, z3⟩ := lens hmA
      obtain ⟨M9, cc9, u9⟩ := WSame_C hmA hmB z1 z2 z3
      have cc9 : C 14 [.agg [.sl ca.1 ca.2.1 ca.2.2, .sl ta.1 ta.2.1 ta.2.2], .agg [.sl cb.1 cb.2.1 cb.2.2, .sl tb.1 tb.2.1 tb.2.2]] Mx = _ := cc9
      obtain ⟨Mw, cw, _⟩ := awake_C Mem.empty
      simp only [int?_int, rvs, Int.reduceBEq, Int.reduceBNe, Int.cast_ofNat_Int, q, k1, k2, k3, k4, cc9, cw] at hG
      exact ⟨M9, hG, by have := u9.1; omega, fun o h1 h2 => by rw [u9.2 o (by omega), hk o h1 h2]⟩
    | succ d ih =>
      intro i Mx zs hi ho hk hn
      have hG := p4_2_eq C prog.meth w.1 w.2.1 w.2.2 M2.n M5.n (i : Int) Mx
      have q : ((i : Int) < (w.2.1 : Int)) := by omega
      have k0 : (0 : Int) ≤ (i : Int) := by omega
      have k1 : Nat.blt i w.2.1 = true := Mem.blt_iff.2 (by omega)
      have w1 : IntKind.wrap .i64 ((i : Int) + 1) = ((i + 1 : Nat) : Int) := by rw [wrap_i64 (by omega) (by omega)]; rfl
      obtain ⟨o, hp, hv⟩ := ho.get (i := i) (by omega)
      obtain ⟨o', M9, hp', hf', s9, o9, n9, b9⟩ := ho.set (i := i) (by omega) (IntKind.wrap .u8 ((BitVec.ofInt (IntKind.bits .u8) (zs[i]'(by have := ho.1; omega)) ^^^ BitVec.ofInt (IntKind.bits .u8) 90).toNat))
      rw [hp] at hp'
      obtain rfl : o = o' := by cases hp'; rfl
      simp only [int?_int, rvs, Int.reduceBEq, Int.reduceBNe, Int.cast_ofNat_Int, q, k0, k1, Int.toNat_natCast, hp, Nat.zero_add, Nat.mul_one, hv, s9, w1] at hG
      obtain ⟨M', c', r'⟩ := ih (i + 1) M9 _ (by omega) o9 (fun q hq hn' => by rw [b9.2 q (by omega) (fun e => hn' (by rw [hf', e]; simp)), hk q hq hn']) (by omega)
      exact ⟨M', hG.trans c', r'⟩
  obtain ⟨M', c', r1, r2⟩ := loop w.2.1 0 M8 xs (by omega) (o1.upto u18) (fun _ _ _ => rfl) (Nat.le_refl _)
  exact ⟨M', c4 (hE.trans (hF.trans c')), by have := u1.1; have := u18.1; omega, fun o ho => by rw [r2 o (by have := u1.1; have := u18.1; omega) (fun e => by have := f1' o e; omega), u18.2 o (by have := u1.1; omega), u1.2 o ho]⟩
end
end Go.Proofs.Ytmkncifbammfjaa.M
