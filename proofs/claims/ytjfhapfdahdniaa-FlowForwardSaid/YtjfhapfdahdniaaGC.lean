/- The package flow: the walk that finds the loops. -/
import Derived.Test.YtjfhapfdahdniaaGB
set_option linter.unusedVariables false
set_option linter.unusedSimpArgs false
set_option linter.unnecessarySimpa false
set_option maxRecDepth 100000
namespace Go.Proofs.Ytjfhapfdahdniaa.M
open Go.Abs Go.RowKit

section
variable {xs : List Ins} {M M0 M1 : Mem} {a : Option (Nat × Nat)} {l : Nat} {c : Cap}
/-- A loop's end is written. -/
theorem set_end (k : Nat) (n : Int) : ∀ (T : List Lo) (k : Nat), k < T.length → overL (T.flatMap encLo) (k * 4 + 1) [.int .i64 n] = (T.modify k (fun x => (x.1, n, x.2.2))).flatMap encLo
  | [], k, h => by simp at h
  | x :: T, 0, h => by rw [overL_one]; rfl
  | x :: T, k + 1, h => by
    have ih := set_end k n T k (by simpa using h)
    rw [overL_one] at ih ⊢
    rw [List.modify_succ_cons, List.flatMap_cons, List.flatMap_cons, ← ih, List.set_append_right _ _ (by show 4 ≤ _; omega)]
    congr 1
    show (List.flatMap encLo T).set ((k + 1) * 4 + 1 - 4) _ = _
    rw [show (k + 1) * 4 + 1 - 4 = k * 4 + 1 by omega]
/-- Loops of one's own. -/
def OwnLo (N0 : Nat) (M : Mem) (v : SlV) (T : List Lo) : Prop := T.length = v.2.1 ∧ (v = (none, 0, .known 0) ∨ ∃ o, v.1 = some (o, 0) ∧ v.2.2 = .unk 0 ∧ M.get o = some ⟨T.flatMap encLo, .grow 4⟩ ∧ N0 ≤ o)
theorem OwnLo.sl {N0 : Nat} {v : SlV} {T : List Lo} (h : OwnLo N0 M v T) : Row M 4 encLo v.1 v.2.1 v.2.2 T := by
  obtain ⟨h1, rfl | ⟨o, e1, e2, e3, _⟩⟩ := h
  · obtain rfl : T = [] := List.length_eq_zero_iff.1 h1
    exact Row.nil _ _ _
  · have := Sl.whole (c := .unk 0) encLo4 e3 (by simp) rfl
    rw [h1] at this
    exact ⟨by rw [e1, e2]; exact this, .inr ⟨o, e1, e2, e3⟩⟩
/-- The pile. -/
structure Pile (xs : List Ins) (at_ : Nat) (cs : List AVal) : Prop where
  len : cs.length = 257
  n : cs[256]? = some (.int .i64 ((stA xs at_).length : Int))
  open_ : ∀ (j b : Nat), (stA xs at_).reverse[j]? = some b → cs[j]? = some (.int .i64 (rk (RA xs) b : Int))
theorem stA_len (i : Nat) : (stA xs i).length ≤ i := by
  induction i with
  | zero => exact Nat.le_refl _
  | succ i ih =>
    show (stk (RA xs) (EA xs) (i + 1)).length ≤ _
    rw [stk]
    split
    · simp only [List.length_cons]; exact Nat.succ_le_succ ih
    · split
      · rw [List.length_tail]; exact Nat.le_trans (Nat.sub_le _ _) (Nat.le_trans ih (by omega))
      · exact Nat.le_trans ih (by omega)
/-- While the walk goes. -/
structure Wk (M0 M : Mem) (xs : List Ins) (i k s p q : Nat) : Prop where
  up : M0.Upto M
  hs : M0.n ≤ s ∧ M0.n ≤ p ∧ M0.n ≤ q ∧ s ≠ p ∧ s ≠ q ∧ p ≠ q
  g : ∃ lv : SlV, M.get s = some ⟨[.sl lv.1 lv.2.1 lv.2.2, .sl (some (q, 0)) xs.length (.known xs.length)], .fixed⟩ ∧ OwnLo (max s (max p q) + 1) M lv (lpA xs i)
  gq : M.get q = some ⟨((List.range k).map (tix xs) ++ List.replicate (xs.length - k) 0).map (.int .i64), .fixed⟩
  gp : ∃ cs, M.get p = some ⟨cs, .fixed⟩ ∧ Pile xs i cs
theorem OwnLo.keep {N0 : Nat} {v : SlV} {T : List Lo} {M' : Mem} (h : OwnLo N0 M v T) (hk : ∀ y, N0 ≤ y → y < M.n → M'.get y = M.get y) : OwnLo N0 M' v T := by
  obtain ⟨h1, e | ⟨o, e1, e2, e3, e4⟩⟩ := h
  · exact ⟨h1, .inl e⟩
  · exact ⟨h1, .inr ⟨o, e1, e2, (hk o e4 (Mem.get_lt e3)).trans e3, e4⟩⟩
theorem up_but {M' : Mem} {S : Nat → Prop} (hu : M0.Upto M) (h : Mem.But S M M') (hs : ∀ o, S o → M0.n ≤ o) : M0.Upto M' :=
  ⟨Nat.le_trans hu.1 h.1, fun o ho => by rw [h.2 o (Nat.lt_of_lt_of_le ho hu.1) (fun hS => by have := hs o hS; omega), hu.2 o ho]⟩
section
variable {i k s p q : Nat}
theorem Wk.upto {M' : Mem} (h : Wk M0 M xs i k s p q) (hu : M.Upto M') : Wk M0 M' xs i k s p q := by
  obtain ⟨lv, g1, g2⟩ := h.g
  obtain ⟨cs, c1, c2⟩ := h.gp
  exact ⟨h.up.trans hu, h.hs, ⟨lv, hu.get g1, g2.keep (fun y _ hy => hu.2 y hy)⟩, hu.get h.gq, ⟨cs, hu.get c1, c2⟩⟩
theorem Wk.inset (h : Wk M0 M xs i k s p q) (hk : k < xs.length) : ∃ M', M.st q k [.int .i64 (tix xs k)] = some M' ∧ Wk M0 M' xs i (k + 1) s p q ∧ Mem.But (· = q) M M' := by
  obtain ⟨lv, g1, g2⟩ := h.g
  obtain ⟨cs, c1, c2⟩ := h.gp
  have hq := h.gq
  obtain ⟨a1, a2, a3, a4, a5, a6⟩ := h.hs
  have hlen : (((List.range k).map (tix xs) ++ List.replicate (xs.length - k) 0).map (AVal.int .i64)).length = xs.length := by simp; omega
  have st := st_fix (i := k) (vs := [.int .i64 (tix xs k)]) hq (by rw [hlen]; simp; omega)
  have hb := Mem.But.put M q ⟨overL (((List.range k).map (tix xs) ++ List.replicate (xs.length - k) 0).map (.int .i64)) k [.int .i64 (tix xs k)], .fixed⟩
  refine ⟨_, st, ⟨up_but h.up hb (fun o ho => by omega), h.hs, ⟨lv, hb.get g1 (by omega), g2.keep (fun y hy hy2 => hb.2 y hy2 (by omega))⟩, ?_, ⟨cs, hb.get c1 (by omega), c2⟩⟩, hb⟩
  rw [get_put_self (Mem.get_lt hq)]
  congr 2
  rw [overL_one, ← List.map_set]
  congr 1
  rw [List.set_append_right _ _ (by simp), List.length_map, List.length_range, Nat.sub_self, show xs.length - k = (xs.length - (k + 1)) + 1 by omega, List.replicate_succ, List.set_cons_zero, List.range_succ, List.map_append]
  simp
theorem Wk.push (h : Wk M0 M xs i k s p q) (hR : RA xs i = true) (h256 : i < 256) : ∃ (lv : SlV) (M1 M2 M4 M5 : Mem),
    M.ldI .i64 p 256 = some ((stA xs i).length : Int) ∧ M.ldL s 0 = some lv ∧ Nat.blt (stA xs i).length 256 = true ∧ M.st p (stA xs i).length [.int .i64 (lv.2.1 : Int)] = some M1 ∧ M1.ldI .i64 p 256 = some ((stA xs i).length : Int) ∧
    M1.st p 256 [.int .i64 (((stA xs i).length + 1 : Nat) : Int)] = some M2 ∧ M2.ldL s 0 = some lv ∧ M2.ldI .i64 p 256 = some (((stA xs i).length + 1 : Nat) : Int) ∧ (∀ o x, o ≠ p → M.get o = some x → M2.get o = some x) ∧
    (∀ {β : Type} (K : Option (Nat × Nat) → Nat → Cap → Mem → Option β), appK false 4 32 (M2.alloc ⟨[.int .i64 (i : Int), .int .i64 (-1), .int .i64 (immA xs i), .int .i64 (((stA xs i).length + 1 : Nat) : Int)], .fixed⟩) lv.1 lv.2.1 lv.2.2 (.sl (some (M2.n, 0)) 1 (.known 1)) K = K (some (M2.n + 1, 0)) (lv.2.1 + 1) (.unk 0) M4) ∧
    M4.st s 0 [.sl (some (M2.n + 1, 0)) (lv.2.1 + 1) (.unk 0)] = some M5 ∧ (M2.alloc ⟨[.int .i64 (i : Int), .int .i64 (-1), .int .i64 (immA xs i), .int .i64 (((stA xs i).length + 1 : Nat) : Int)], .fixed⟩).still s 0 [.sl lv.1 lv.2.1 lv.2.2] = true ∧
    M5.ldI .i64 p 256 = some (((stA xs i).length + 1 : Nat) : Int) ∧ Wk M0 M5 xs (i + 1) k s p q := by
  obtain ⟨lv, g1, g2⟩ := h.g
  obtain ⟨cs, c1, c2⟩ := h.gp
  obtain ⟨a1, a2, a3, a4, a5, a6⟩ := h.hs
  have hsl := stA_len (xs := xs) i
  have e1 : stA xs (i + 1) = i :: stA xs i := by show stk _ _ (i + 1) = _; rw [stk, if_pos hR]
  have hlv : lv.2.1 = rk (RA xs) i := by rw [← g2.1, lps_length]
  have st1 := st_fix (i := (stA xs i).length) (vs := [.int .i64 (lv.2.1 : Int)]) c1 (by rw [c2.len]; simp; omega)
  rw [overL_one] at st1
  generalize hM1 : M.put p ⟨cs.set (stA xs i).length (.int .i64 (lv.2.1 : Int)), .fixed⟩ = M1 at st1
  have n1 : M1.n = M.n := by rw [← hM1]; rfl
  have b1 : Mem.But (· = p) M M1 := by rw [← hM1]; exact Mem.But.put _ _ _
  have c1' : M1.get p = some ⟨cs.set (stA xs i).length (.int .i64 (lv.2.1 : Int)), .fixed⟩ := by rw [← hM1]; exact get_put_self (Mem.get_lt c1)
  have st2 := st_fix (i := 256) (vs := [.int .i64 (((stA xs i).length + 1 : Nat) : Int)]) c1' (by rw [List.length_set, c2.len]; simp)
  rw [overL_one] at st2
  generalize hM2 : M1.put p ⟨(cs.set (stA xs i).length (.int .i64 (lv.2.1 : Int))).set 256 (.int .i64 (((stA xs i).length + 1 : Nat) : Int)), .fixed⟩ = M2 at st2
  have n2 : M2.n = M.n := by rw [← hM2]; exact n1
  have b2 : Mem.But (· = p) M M2 := b1.trans (by rw [← hM2]; exact Mem.But.put _ _ _) (fun _ _ h => h)
  have c2' : M2.get p = some ⟨(cs.set (stA xs i).length (.int .i64 (lv.2.1 : Int))).set 256 (.int .i64 (((stA xs i).length + 1 : Nat) : Int)), .fixed⟩ := by rw [← hM2]; exact get_put_self (by rw [n1]; exact Mem.get_lt c1)
  have gs2 := b2.get g1 (by omega)
  have ow2 : OwnLo (max s (max p q) + 1) M2 lv (lpA xs i) := g2.keep (fun y hy hy2 => b2.2 y hy2 (by omega))
  have hrl : lv.2.1 ≤ 256 := by have := rk_id (R := RA xs) i; omega
  obtain ⟨M4, q1, q2, q3, q4, q5⟩ := ow2.sl.push (bytes := 32) (y := ((i, -1, immA xs i, (stA xs i).length + 1) : Lo)) (cs := [.int .i64 (i : Int), .int .i64 (-1), .int .i64 (immA xs i), .int .i64 (((stA xs i).length + 1 : Nat) : Int)]) encLo4 (by omega) rfl (by omega)
  have hfp : ∀ o, o ∈ fpOf lv.1 → max s (max p q) + 1 ≤ o := fun o ho => by
    obtain ⟨_, rfl | ⟨o', e1, _, e3, e4⟩⟩ := ow2
    · simp [fpOf] at ho
    · rw [e1] at ho
      obtain rfl : o = o' := by simpa [fpOf] using ho
      exact e4
  have gs4 := q4.get gs2 (fun hh => by have := hfp s hh; omega)
  have gp4 := q4.get c2' (fun hh => by have := hfp p hh; omega)
  have gq2 := b2.get h.gq (by omega)
  have gq4 := q4.get gq2 (fun hh => by have := hfp q hh; omega)
  have st5 := st_fix (i := 0) (vs := [.sl (some (M2.n + 1, 0)) (lv.2.1 + 1) (.unk 0)]) gs4 (by simp)
  rw [overL_one] at st5
  simp only [List.set_cons_zero] at st5
  generalize hM5 : M4.put s ⟨[.sl (some (M2.n + 1, 0)) (lv.2.1 + 1) (.unk 0), .sl (some (q, 0)) xs.length (.known xs.length)], .fixed⟩ = M5 at st5
  have b5 : Mem.But (· = s) M4 M5 := by rw [← hM5]; exact Mem.But.put _ _ _
  have gs5 : M5.get s = some ⟨[.sl (some (M2.n + 1, 0)) (lv.2.1 + 1) (.unk 0), .sl (some (q, 0)) xs.length (.known xs.length)], .fixed⟩ := by rw [← hM5]; exact get_put_self (Mem.get_lt gs4)
  have gp5 := b5.get gp4 (by omega)
  have gq5 := b5.get gq4 (by omega)
  have hlt := Mem.get_lt gs2
  have hltp := Mem.get_lt c2'
  have hltq := Mem.get_lt gq2
  have m1 : M1.ldI .i64 p 256 = some ((stA xs i).length : Int) := by
    rw [ldI_at c1', List.getElem?_set_ne (by omega), c2.n]; rfl
  have m2 : M2.ldI .i64 p 256 = some (((stA xs i).length + 1 : Nat) : Int) := by
    rw [ldI_at c2', List.getElem?_set_self (by rw [List.length_set, c2.len]; omega)]; rfl
  have m5 : M5.ldI .i64 p 256 = some (((stA xs i).length + 1 : Nat) : Int) := by
    rw [ldI_at gp5, List.getElem?_set_self (by rw [List.length_set, c2.len]; omega)]; rfl
  have lold : M2.n + 1 < M4.n := by rw [q3]; omega
  refine ⟨lv, M1, M2, M4, M5, by rw [ldI_at c1, c2.n]; rfl, by rw [ldL_at g1]; rfl, Mem.blt_iff.2 (by omega), st1, m1, st2, by rw [ldL_at gs2]; rfl, m2, fun o x ho hx => b2.get hx (by omega), q1, st5, still1 (by rw [ld_alloc _ hlt, ld_fix gs2]; rfl), m5, ?_⟩
  have hup4 : M0.Upto M4 := up_but (up_but h.up b2 (fun o ho => by omega)) q4 (fun o ho => by have := hfp o ho; omega)
  refine ⟨up_but hup4 b5 (fun o ho => by omega), h.hs, ⟨((some (M2.n + 1, 0), lv.2.1 + 1, .unk 0) : SlV), gs5, ?_⟩, gq5, ⟨_, gp5, ?_⟩⟩
  · have e2 : lpA xs (i + 1) = lpA xs i ++ [(i, -1, immA xs i, (stA xs i).length + 1)] := by show lps _ _ _ (i + 1) = _; rw [lps, if_pos hR]
    rw [e2]
    exact ⟨by simp [g2.1], .inr ⟨M2.n + 1, rfl, rfl, b5.get q5 (by omega), by omega⟩⟩
  · refine ⟨by rw [List.length_set, List.length_set, c2.len], ?_, fun j b hj => ?_⟩
    · rw [e1, List.getElem?_set_self (by rw [List.length_set, c2.len]; omega)]; rfl
    · rw [e1, List.reverse_cons] at hj
      have hjl := (List.getElem?_eq_some_iff.1 hj).1
      simp only [List.length_append, List.length_reverse, List.length_singleton] at hjl
      rw [List.getElem?_set_ne (by omega)]
      by_cases hjj : j = (stA xs i).length
      · subst hjj
        rw [List.getElem?_append_right (by simp)] at hj
        simp only [List.length_reverse, Nat.sub_self, List.getElem?_cons_zero, Option.some.injEq] at hj
        subst hj
        rw [List.getElem?_set_self (by rw [c2.len]; omega), hlv]
      · rw [List.getElem?_append_left (by simp; omega)] at hj
        rw [List.getElem?_set_ne (by omega)]
        exact c2.open_ j b hj
theorem Wk.pop (h : Wk M0 M xs i k s p q) (hR : RA xs i = false) (hE : EA xs i = true) {b : Nat} {r : List Nat} (hs : stA xs i = b :: r) (h256 : i < 256) : ∃ (lv : SlV) (o : Nat) (M4 M5 : Mem),
    M.ldL s 0 = some lv ∧ Nat.blt (rk (RA xs) b) lv.2.1 = true ∧ slPtr lv.1 lv.2.2 = some (o, 0) ∧ M.st o (rk (RA xs) b * 4 + 1) [.int .i64 (i : Int)] = some M4 ∧ M.still s 0 [.sl lv.1 lv.2.1 lv.2.2] = true ∧ M4.ldI .i64 p 256 = some (((r.length + 1 : Nat)) : Int) ∧
    M4.st p 256 [.int .i64 (r.length : Int)] = some M5 ∧ Wk M0 M5 xs (i + 1) k s p q := by
  obtain ⟨lv, g1, g2⟩ := h.g
  obtain ⟨cs, c1, c2⟩ := h.gp
  obtain ⟨a1, a2, a3, a4, a5, a6⟩ := h.hs
  obtain ⟨b1, b2, b3⟩ := stk_cons i hs
  have hsl := stA_len (xs := xs) i
  rw [hs, List.length_cons] at hsl
  have e1 : stA xs (i + 1) = r := by show stk _ _ (i + 1) = _; rw [stk, if_neg (by rw [hR]; simp), if_pos hE]; show (stA xs i).tail = r; rw [hs]; rfl
  have hlv : lv.2.1 = rk (RA xs) i := by rw [← g2.1, lps_length]
  have hlt : rk (RA xs) b < lv.2.1 := by rw [hlv]; exact rk_lt b2 b1
  have g2' := g2
  obtain ⟨hT, rfl | ⟨o, o1, o2, o3, o4⟩⟩ := g2
  · simp at hlt
  have hfl : (rk (RA xs) b * 4 + 1) + 1 ≤ ((lpA xs i).flatMap encLo).length := by rw [flatMap_length encLo4, hT]; omega
  have st1 := st_grow (i := rk (RA xs) b * 4 + 1) (vs := [.int .i64 (i : Int)]) o3 hfl
  rw [set_end 0 i _ _ (by rw [hT]; exact hlt)] at st1
  generalize hM4 : M.put o ⟨((lpA xs i).modify (rk (RA xs) b) (fun x => (x.1, (i : Int), x.2.2))).flatMap encLo, .grow 4⟩ = M4 at st1
  have but4 : Mem.But (· = o) M M4 := by rw [← hM4]; exact Mem.But.put _ _ _
  have go4 : M4.get o = some ⟨((lpA xs i).modify (rk (RA xs) b) (fun x => (x.1, (i : Int), x.2.2))).flatMap encLo, .grow 4⟩ := by rw [← hM4]; exact get_put_self (Mem.get_lt o3)
  have gp4 := but4.get c1 (by omega)
  have st5 := st_fix (i := 256) (vs := [.int .i64 (r.length : Int)]) gp4 (by rw [c2.len]; simp)
  rw [overL_one] at st5
  generalize hM5 : M4.put p ⟨cs.set 256 (.int .i64 (r.length : Int)), .fixed⟩ = M5 at st5
  have but5 : Mem.But (· = p) M4 M5 := by rw [← hM5]; exact Mem.But.put _ _ _
  have gp5 : M5.get p = some ⟨cs.set 256 (.int .i64 (r.length : Int)), .fixed⟩ := by rw [← hM5]; exact get_put_self (Mem.get_lt gp4)
  refine ⟨lv, o, M4, M5, by rw [ldL_at g1]; rfl, Mem.blt_iff.2 hlt, by rw [o1, o2]; rfl, st1, still1 (by rw [ld_fix g1]; rfl), by rw [ldI_at gp4, c2.n, hs]; rfl, st5, ?_⟩
  refine ⟨up_but (up_but h.up but4 (fun x hx => by omega)) but5 (fun x hx => by omega), h.hs, ⟨lv, but5.get (but4.get g1 (by omega)) (by omega), ?_⟩, but5.get (but4.get h.gq (by omega)) (by omega), ⟨_, gp5, ?_⟩⟩
  · have e2 : lpA xs (i + 1) = (lpA xs i).modify (rk (RA xs) b) (fun x => (x.1, (i : Int), x.2.2)) := by
      show lps _ _ _ (i + 1) = _
      rw [lps, if_neg (by rw [hR]; simp), if_pos hE]
      show (match stA xs i with | [] => _ | b :: _ => _) = _
      rw [hs]
    rw [e2]
    exact ⟨by rw [List.length_modify]; exact hT, .inr ⟨o, o1, o2, but5.get go4 (by omega), o4⟩⟩
  · refine ⟨by rw [List.length_set, c2.len], ?_, fun j b' hj => ?_⟩
    · rw [e1, List.getElem?_set_self (by rw [c2.len]; omega)]
    · rw [e1] at hj
      have hjl := (List.getElem?_eq_some_iff.1 hj).1
      rw [List.length_reverse] at hjl
      rw [List.getElem?_set_ne (by omega)]
      exact c2.open_ j b' (by rw [hs, List.reverse_cons, List.getElem?_append_left (by rw [List.length_reverse]; exact hjl)]; exact hj)
theorem Wk.same (h : Wk M0 M xs i k s p q) (hR : RA xs i = false) (hE : EA xs i = false ∨ stA xs i = []) : Wk M0 M xs (i + 1) k s p q := by
  have e1 : stA xs (i + 1) = stA xs i := by
    show stk _ _ (i + 1) = _
    rw [stk, if_neg (by rw [hR]; simp)]
    rcases hE with hE | hE
    · rw [if_neg (by rw [hE]; simp)]
    · split
      · show (stA xs i).tail = _; rw [hE]; rfl
      · rfl
  have e2 : lpA xs (i + 1) = lpA xs i := by
    show lps _ _ _ (i + 1) = _
    rw [lps, if_neg (by rw [hR]; simp)]
    rcases hE with hE | hE
    · rw [if_neg (by rw [hE]; simp)]
    · split
      · show (match stA xs i with | [] => _ | b :: _ => _) = _
        rw [hE]
      · rfl
  obtain ⟨lv, g1, g2⟩ := h.g
  obtain ⟨cs, c1, c2⟩ := h.gp
  exact ⟨h.up, h.hs, ⟨lv, g1, by rw [e2]; exact g2⟩, h.gq, ⟨cs, c1, ⟨c2.len, by rw [e1]; exact c2.n, fun j b hj => c2.open_ j b (by rw [e1] at hj; exact hj)⟩⟩⟩
end
theorem inner_C {p : Nat} {cs : List AVal} {at_ : Nat} (hg : M.get p = some ⟨cs, .fixed⟩) (hp : Pile xs at_ cs) (h256 : at_ ≤ 256) : C 36 [.ptr (some (p, 0))] M = some (.int .i64 (tix xs at_), M) := by
  have hE := p36_0_eq C prog.meth (some (p, 0)) M
  have e1 : M.ldI .i64 p 256 = some ((stA xs at_).length : Int) := by rw [ldI_at hg, hp.n]; rfl
  cases hs : stA xs at_ with
  | nil =>
    rw [hs] at e1
    simp only [Option.bind_some, Nat.zero_add, e1] at hE
    rw [tix_nil hs]
    exact c36 hE
  | cons b r =>
    have hl := stA_len (xs := xs) at_
    rw [hs, List.length_cons] at hl
    rw [hs, List.length_cons] at e1
    have q1 : (((r.length + 1 : Nat) : Int) == 0) = false := by simp; omega
    have w : IntKind.wrap .i64 (((r.length + 1 : Nat) : Int) - 1) = (r.length : Int) := by rw [wrap_i64 (by omega) (by omega)]; omega
    have k1 : (0 : Int) ≤ (r.length : Int) := by omega
    have k2 : Nat.blt r.length 256 = true := Mem.blt_iff.2 (by omega)
    have e2 : M.ldI .i64 p r.length = some (rk (RA xs) b : Int) := by
      rw [ldI_at hg, hp.open_ r.length b (by rw [hs]; simp)]; rfl
    simp only [Option.bind_some, Nat.zero_add, e1, q1, cond_false, w, k1, Int.toNat_natCast, k2, decide_true, cond_true, Nat.mul_one, Nat.add_zero, e2] at hE
    rw [tix_cons hs]
    exact c36 hE
/-- The loops of a program. -/
theorem shaped_C (hx : Sl M 5 encI a l c xs) (hr : ∀ x ∈ xs, InsR x) (h256 : l ≤ 256) : ∃ M' s, C 28 [.sl a l c] M = some (.tup [.ptr (some (s, 0)), .int .i64 (badA xs : Int)], M') ∧ M.Upto M' ∧ Shp M' s xs := by
  have hE := p28_0_eq C prog.meth a l c M
  have hl := hx.2
  have z1 : (0 : Int) ≤ ((l : Nat) : Int) := by omega
  have z2 : (Nat.ble l l && Nat.ble (8 * l) (2 ^ 47)) = true := by rw [ble_iff.2 (Nat.le_refl _), ble_iff.2 (by omega)]; rfl
  simp only [z1, decide_true, cond_true, Int.toNat_natCast, z2] at hE
  obtain ⟨Ma, ea', ga, ua, na⟩ := alloc_at M ⟨replZ [.int .i64 0] l, .fixed⟩
  rw [ea'] at hE
  obtain ⟨Mb, eb, gb, ub, nb⟩ := alloc_at Ma ⟨[.sl none 0 (.known 0), .sl (some (M.n, 0)) l (.known l)], .fixed⟩
  rw [eb] at hE
  obtain ⟨Mc, ec, gc, uc, nc⟩ := alloc_at Mb ⟨replZ [.int .i64 0] 257, .fixed⟩
  rw [ec] at hE
  have w0 : Wk M Mc xs 0 0 Ma.n Mb.n M.n := by
    refine ⟨(ua.trans ub).trans uc, by omega, ⟨((none, 0, .known 0) : SlV), by rw [uc.get gb, hl], ⟨rfl, .inl rfl⟩⟩, ?_, ⟨_, gc, ?_⟩⟩
    · rw [(ub.trans uc).get ga, replZ_int, hl]; simp
    · refine ⟨by rw [replZ_one]; simp, by rw [replZ_one]; simp [stk], fun j b hj => by simp [stk] at hj⟩
  have hIn : ∀ i, i < xs.length → InsR (iA xs i) := fun i hi => by rw [iA_get hi]; exact hr _ (List.getElem_mem hi)
  generalize Ma.n = s at hE w0
  generalize Mb.n = p at hE w0
  generalize M.n = q at hE w0
  have loop2 : ∀ (d i : Nat) (M1 : Mem), i + d = (stA xs xs.length).length → Wk M M1 xs xs.length xs.length s p q → p28_4 C prog.meth (some (s, 0)) p (((stA xs xs.length).reverse.take i).foldl (fun a b => min b a) (bdA xs xs.length) : Nat) ((stA xs xs.length).length : Int) (i : Int) M1 = some (.tup [.ptr (some (s, 0)), .int .i64 (badA xs : Int)], M1) := by
    intro d
    induction d with
    | zero =>
      intro i M1 hi w
      have hF := p28_4_eq C prog.meth (some (s, 0)) p (((stA xs xs.length).reverse.take i).foldl (fun a b => min b a) (bdA xs xs.length) : Nat) ((stA xs xs.length).length : Int) (i : Int) M1
      have q1 : ¬ ((i : Int) < ((stA xs xs.length).length : Int)) := by omega
      simp only [q1, decide_false, cond_false] at hF
      rw [hF, List.take_of_length_le (by simp; omega)]; rfl
    | succ d ih =>
      intro i M1 hi w
      have hF := p28_4_eq C prog.meth (some (s, 0)) p (((stA xs xs.length).reverse.take i).foldl (fun a b => min b a) (bdA xs xs.length) : Nat) ((stA xs xs.length).length : Int) (i : Int) M1
      have q1 : ((i : Int) < ((stA xs xs.length).length : Int)) := by omega
      have hsl := stA_len (xs := xs) xs.length
      have hir : i < (stA xs xs.length).reverse.length := by simp; omega
      obtain ⟨b, hb⟩ : ∃ b, (stA xs xs.length).reverse[i]? = some b := ⟨_, List.getElem?_eq_getElem hir⟩
      have hbm : b ∈ stA xs xs.length := List.mem_reverse.1 (List.mem_of_getElem? hb)
      obtain ⟨-, b1, b2⟩ := stk_mem hbm
      obtain ⟨cs, c1, c2⟩ := w.gp
      obtain ⟨lv, g1, g2⟩ := w.g
      have hk : rk (RA xs) b < lv.2.1 := by rw [← g2.1, lps_length]; exact rk_lt b2 b1
      have e0 : M1.ldL s 0 = some lv := by rw [ldL_at g1]; rfl
      have e1 : M1.ldI .i64 p i = some (rk (RA xs) b : Int) := by rw [ldI_at c1, c2.open_ i b hb]; rfl
      obtain ⟨pp, p1, p2⟩ := g2.sl.sl.get encLo4 (by omega) hk
      have e3 := (List.getElem?_eq_some_iff.1 (lps_get (E := EA xs) (T := immA xs) b2 b1)).2
      have e2 : M1.ldI .i64 pp.1 (pp.2 + rk (RA xs) b * 4) = some (b : Int) := ldI_ld.2 (by
        have := p2 0 (by omega)
        rw [e3] at this
        rw [← Nat.add_assoc, Nat.add_zero] at this
        exact this)
      have k1 : (0 : Int) ≤ (i : Int) := by omega
      have k2 : Nat.blt i 256 = true := Mem.blt_iff.2 (by omega)
      have k3 : (0 : Int) ≤ (rk (RA xs) b : Int) := by omega
      have k4 : Nat.blt (rk (RA xs) b) lv.2.1 = true := Mem.blt_iff.2 hk
      have w3 : IntKind.wrap .i64 ((i : Int) + 1) = ((i + 1 : Nat) : Int) := by rw [wrap_i64 (by omega) (by omega)]; rfl
      simp only [q1, decide_true, cond_true, Option.bind_some, Nat.zero_add, e0, k1, Int.toNat_natCast, k2, Nat.mul_one, e1, k3, k4, p1, Nat.add_zero, e2, w3] at hF
      have e4 : (cond (decide ((b : Int) < ((((stA xs xs.length).reverse.take i).foldl (fun a b => min b a) (bdA xs xs.length) : Nat) : Int))) (b : Int) ((((stA xs xs.length).reverse.take i).foldl (fun a b => min b a) (bdA xs xs.length) : Nat) : Int)) = ((((stA xs xs.length).reverse.take (i + 1)).foldl (fun a b => min b a) (bdA xs xs.length) : Nat) : Int) := by
        rw [List.take_add_one, hb, List.foldl_append]
        generalize ((stA xs xs.length).reverse.take i).foldl (fun a b => min b a) (bdA xs xs.length) = y
        show _ = ((min b y : Nat) : Int)
        by_cases h : b < y
        · rw [decide_eq_true (by omega), cond_true]; omega
        · rw [decide_eq_false (by omega), cond_false]; omega
      rw [e4] at hF
      exact hF.trans (ih (i + 1) M1 (by omega) w)
  have loop : ∀ (d i : Nat) (M1 : Mem), i + d = l → Wk M M1 xs i i s p q → ∃ M', p28_1 C prog.meth (some (s, 0)) p (bdA xs i : Int) a l c (l : Int) (i : Int) M1 = some (.tup [.ptr (some (s, 0)), .int .i64 (badA xs : Int)], M') ∧ M.Upto M' ∧ Shp M' s xs := by
    intro d
    induction d with
    | zero =>
      intro i M1 hi w
      have hF := p28_1_eq C prog.meth (some (s, 0)) p (bdA xs i : Int) a l c (l : Int) (i : Int) M1
      have q1 : ¬ ((i : Int) < (l : Int)) := by omega
      obtain ⟨cs, c1, c2⟩ := w.gp
      have e1 : M1.ldI .i64 p 256 = some ((stA xs i).length : Int) := by rw [ldI_at c1, c2.n]; rfl
      simp only [q1, decide_false, cond_false, e1, Option.bind_some] at hF
      obtain rfl : i = xs.length := by omega
      refine ⟨M1, hF.trans ?_, w.up, ?_⟩
      · have := loop2 (stA xs xs.length).length 0 M1 (by omega) w
        simpa using this
      · obtain ⟨lv, g1, g2⟩ := w.g
        refine ⟨⟨lv, q, g1, g2.sl.sl, ?_⟩⟩
        rw [w.gq]; simp
    | succ d ih =>
      intro i M1 hi w
      have hil : i < l := by omega
      have hix : i < xs.length := by omega
      have hF := p28_1_eq C prog.meth (some (s, 0)) p (bdA xs i : Int) a l c (l : Int) (i : Int) M1
      obtain ⟨pp, p1, d1, d2, d3, d4, d5, -, -⟩ := in_ld (hx.upto encI5 (by omega) w.up) hil
      obtain ⟨M2, m1, m2, m3, m4⟩ := ibox M1 (iA xs i)
      have w2 := w.upto m2
      obtain ⟨lv, g1, g2⟩ := w2.g
      obtain ⟨cs, c1, c2⟩ := w2.gp
      have e1 : M2.ldL s 1 = some (some (q, 0), xs.length, .known xs.length) := by rw [ldL_at g1]; rfl
      have e2 := inner_C c1 c2 (by omega)
      obtain ⟨M3, s1, w3, b3⟩ := w2.inset hix
      have e3 : M2.still s 1 [.sl (some (q, 0)) xs.length (.known xs.length)] = true := still1 (by rw [ld_fix g1]; rfl)
      have hqlt := Mem.get_lt w.gq
      have bx3 : M3.get M1.n = some ⟨encI (iA xs i), .fixed⟩ := b3.get m4 (by omega)
      have r0 := (ibox_rd bx3).1
      have q1 : ((i : Int) < (l : Int)) := by omega
      have k1 : (0 : Int) ≤ (i : Int) := by omega
      have k2 : Nat.blt i l = true := Mem.blt_iff.2 hil
      have k3 : Nat.blt i xs.length = true := Mem.blt_iff.2 hix
      have sq : slPtr (some (q, 0)) (.known xs.length) = some (q, 0) := rfl
      simp only [opA, offA, immA] at d1 d2 d3 d4 d5
      simp only [q1, decide_true, cond_true, k1, Int.toNat_natCast, k2, p1, Option.bind_some, d1, d2, d3, d4, d5, m1, Nat.zero_add, e1, e2, int?_int, k3, sq, Nat.mul_one, s1, e3, r0] at hF
      have w1 : IntKind.wrap .i64 ((i : Int) + 1) = ((i + 1 : Nat) : Int) := by rw [wrap_i64 (by omega) (by omega)]; rfl
      have hins := hIn i hix
      have wim : IntKind.wrap .i64 (immA xs i) = immA xs i := hins.w.2
      have hminI : ∀ x y : Nat, cond (decide ((x : Int) < (y : Int))) (x : Int) (y : Int) = ((min x y : Nat) : Int) := fun x y => by
        by_cases h : x < y
        · rw [decide_eq_true (by omega), cond_true]; omega
        · rw [decide_eq_false (by omega), cond_false]; omega
      cases hR : RA xs i with
      | true =>
        have hop : (((iA xs i).1 : Int) == 33) = true := by
          unfold RA opA at hR
          rw [Nat.eq_of_beq_eq_true hR]; rfl
        rw [hop, cond_true] at hF
        have hG := p28_2_eq C prog.meth (some (s, 0)) p (bdA xs i : Int) (i : Int) M1.n a l c (l : Int) (i : Int) M3
        obtain ⟨lv', N1, N2, N4, N5, f1, f2, f3, f4, f5, f6, f7, f8, f9, f10, f11, f12, f13, f14⟩ := w3.push hR (by omega)
        have hp3 := Mem.get_lt c1
        have bx5 := f9 _ _ (by have : p < M1.n := Mem.get_lt (w.gp.choose_spec.1); omega) bx3
        have r4 : N2.ldI .i32 M1.n 4 = some (immA xs i) := (ibox_rd bx5).2.2.2.2
        have z1 : (0 : Int) ≤ ((stA xs i).length : Int) := by omega
        have z2 : IntKind.wrap .i64 (((stA xs i).length : Int) + 1) = (((stA xs i).length + 1 : Nat) : Int) := by
          have := stA_len (xs := xs) i
          rw [wrap_i64 (by omega) (by omega)]; rfl
        simp only [f1, Option.bind_some, Nat.zero_add, f2, z1, decide_true, cond_true, Int.toNat_natCast, f3, Nat.mul_one, f4, f5, z2, f6, f7, r4, f8, wim, f10, f11, f12, f13, w1] at hG
        have key : ∀ y : Nat, y = bdA xs (i + 1) → p28_2 C prog.meth (some (s, 0)) p (bdA xs i : Int) (i : Int) M1.n a l c (l : Int) (i : Int) M3 = p28_1 C prog.meth (some (s, 0)) p (y : Int) a l c (l : Int) ((i + 1 : Nat) : Int) N5 → ∃ M', p28_1 C prog.meth (some (s, 0)) p (bdA xs i : Int) a l c (l : Int) (i : Int) M1 = some (.tup [.ptr (some (s, 0)), .int .i64 (badA xs : Int)], M') ∧ M.Upto M' ∧ Shp M' s xs := by
          intro y hy hh
          subst hy
          obtain ⟨M', t1, t2, t3⟩ := ih (i + 1) N5 (by omega) ⟨f14.up, f14.hs, f14.g, f14.gq, f14.gp⟩
          exact ⟨M', hF.trans (hh.trans t1), t2, t3⟩
        by_cases h3 : (stA xs i).length + 1 > 3
        · have z3 : ((((stA xs i).length + 1 : Nat) : Int) > 3) := by omega
          simp only [z3, decide_true, cond_true] at hG
          rw [hminI] at hG
          exact key _ (by rw [bdA, if_pos hR, if_pos h3]) hG
        · have z3 : ¬ ((((stA xs i).length + 1 : Nat) : Int) > 3) := by omega
          simp only [z3, decide_false, cond_false] at hG
          exact key _ (by rw [bdA, if_pos hR, if_neg h3]) hG
      | false =>
        have hop : (((iA xs i).1 : Int) == 33) = false := by
          unfold RA opA at hR
          have : (iA xs i).1 ≠ 33 := fun e => by rw [e] at hR; cases hR
          simp; omega
        rw [hop, cond_false] at hF
        have hG := p28_3_eq C prog.meth (some (s, 0)) p (bdA xs i : Int) (i : Int) M1.n a l c (l : Int) (i : Int) M3
        obtain ⟨lv3, g13, g23⟩ := w3.g
        obtain ⟨cs3, c13, c23⟩ := w3.gp
        have f1 : M3.ldI .i64 p 256 = some ((stA xs i).length : Int) := by rw [ldI_at c13, c23.n]; rfl
        have key : ∀ (y : Nat) (N5 : Mem), y = bdA xs (i + 1) → Wk M N5 xs (i + 1) (i + 1) s p q → p28_3 C prog.meth (some (s, 0)) p (bdA xs i : Int) (i : Int) M1.n a l c (l : Int) (i : Int) M3 = p28_1 C prog.meth (some (s, 0)) p (y : Int) a l c (l : Int) ((i + 1 : Nat) : Int) N5 → ∃ M', p28_1 C prog.meth (some (s, 0)) p (bdA xs i : Int) a l c (l : Int) (i : Int) M1 = some (.tup [.ptr (some (s, 0)), .int .i64 (badA xs : Int)], M') ∧ M.Upto M' ∧ Shp M' s xs := by
          intro y N5 hy hw hh
          subst hy
          obtain ⟨M', t1, t2, t3⟩ := ih (i + 1) N5 (by omega) hw
          exact ⟨M', hF.trans (hh.trans t1), t2, t3⟩
        have hRn : ¬ (RA xs i = true) := by rw [hR]; simp
        cases hEE : EA xs i with
        | true =>
          have hop4 : (((iA xs i).1 : Int) == 34) = true := by
            unfold EA opA at hEE
            rw [Nat.eq_of_beq_eq_true hEE]; rfl
          simp only [r0, Option.bind_some, hop4, cond_true, f1] at hG
          cases hs : stA xs i with
          | nil =>
            rw [hs] at hG
            simp only [List.length_nil, Int.cast_ofNat_Int, beq_self_eq_true, cond_true, w1] at hG
            rw [hminI] at hG
            exact key _ _ (by rw [bdA, if_neg hRn, if_pos hEE, if_pos (by rw [hs]; rfl)]) (w3.same hR (.inr hs)) hG
          | cons b r =>
            obtain ⟨lv', o, N4, N5, t1, t2, t3, t4, t5, t6, t7, t8⟩ := w3.pop hR hEE hs (by omega)
            rw [hs] at hG
            have z1 : ((((b :: r).length : Nat) : Int) == 0) = false := by simp; omega
            have e4 := inner_C c13 c23 (by omega)
            rw [tix_cons hs] at e4
            have z2 : (0 : Int) ≤ (rk (RA xs) b : Int) := by omega
            have hsl := stA_len (xs := xs) i
            rw [hs, List.length_cons] at hsl
            have z3 : IntKind.wrap .i64 (((r.length + 1 : Nat) : Int) - 1) = (r.length : Int) := by rw [wrap_i64 (by omega) (by omega)]; omega
            simp only [z1, cond_false, Nat.zero_add, t1, Option.bind_some, e4, int?_int, z2, decide_true, cond_true, Int.toNat_natCast, t2, t3, t4, t5, t6, z3, t7, w1] at hG
            exact key _ _ (by rw [bdA, if_neg hRn, if_pos hEE, if_neg (by rw [hs]; simp)]) t8 hG
        | false =>
          have hop4 : (((iA xs i).1 : Int) == 34) = false := by
            unfold EA opA at hEE
            have : (iA xs i).1 ≠ 34 := fun e => by rw [e] at hEE; cases hEE
            simp; omega
          simp only [r0, Option.bind_some, hop4, cond_false, w1] at hG
          exact key _ _ (by rw [bdA, if_neg hRn, if_neg (by rw [hEE]; simp)]) (w3.same hR (.inl hEE)) hG
  obtain ⟨M', t1, t2, t3⟩ := loop l 0 Mc (by omega) w0
  refine ⟨M', s, c28 (hE.trans ?_), t2, t3⟩
  rw [← t1, show bdA xs 0 = l from hl]; rfl
end
end Go.Proofs.Ytjfhapfdahdniaa.M
