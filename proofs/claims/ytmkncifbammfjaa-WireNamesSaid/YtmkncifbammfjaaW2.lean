import Derived.Test.YtmkncifbammfjaaW1
import Derived.Test.YtmkncifbammfjaaXLib5
set_option linter.unusedVariables false
set_option linter.unusedSimpArgs false
set_option linter.unnecessarySimpa false
set_option maxRecDepth 100000
namespace Go.Proofs.Ytmkncifbammfjaa.M
open Go.Abs
section
variable {M M' : Mem} {ro mo : Nat} {v ca ta : SlV} {xs : List Int} {s : Rs} {L : List Ins} {tvs : List SlV} {Ts : List (List Pr)} {size : Nat}
def nxS (size : Nat) (s : Rs) : Rs := rdS size (fun _ => 0) s
def nxB (size : Nat) (s : Rs) : Bool := decide (s.2 = 0 ∧ size ≤ s.1.length)
theorem nx_bad (h : s.2 ≠ 0) : nxS size s = s ∧ nxB size s = false ∧ rdB size s = [] := ⟨rdS_bad h, decide_eq_false (fun e => h e.1), rdB_none (.inl h)⟩
theorem nx_short (h0 : s.2 = 0) (h : s.1.length < size) : nxS size s = ([], 6) ∧ nxB size s = false ∧ rdB size s = [] := ⟨rdS_short h0 h, decide_eq_false (fun e => by omega), rdB_none (.inr h)⟩
theorem nx_read (h0 : s.2 = 0) (h : size ≤ s.1.length) : nxS size s = (s.1.drop size, 0) ∧ nxB size s = true ∧ rdB size s = s.1.take size := ⟨by unfold nxS; rw [rdS_read h0 h, if_pos rfl], decide_eq_true ⟨h0, h⟩, rdB_read h0 h⟩
theorem next_C (h : Rdr M ro v xs s) (hs : 0 < size) (h8 : size ≤ 8) : ∃ M', C 36 [.ptr (some (ro, 0)), .int .i64 (size : Int)] M = some (.tup [.int .u64 (numB (rdB size s) : Int), .bool (nxB size s)], M') ∧ Rdr M' ro v xs (nxS size s) ∧ Mem.But (· = ro) M M' ∧ M'.n = M.n := by
  have hE := p36_0_eq C prog.meth (some (ro, 0)) (size : Int) M
  obtain ⟨l0, l1, l2⟩ := h.rd
  obtain ⟨e1, e2⟩ := h.lens
  have hlim := h.lim
  by_cases h0 : s.2 = 0
  · have q0 : (s.2 != 0) = false := by simp [h0]
    have w1 : IntKind.wrap .i64 ((v.2.1 : Int) - ((xs.length - s.1.length : Nat) : Int)) = (s.1.length : Int) := by rw [wrap_i64 (by omega) (by omega)]; omega
    by_cases hl : s.1.length < size
    · have q : (s.1.length : Int) < (size : Int) := by omega
      obtain ⟨M1, s1, g1, n1, b1⟩ := st_at (i := 1) (vs := [.int .i64 (v.2.1 : Int)]) h.g (by simp)
      obtain ⟨M2, s2, g2, n2, b2⟩ := st_at (i := 2) (vs := [.int .i64 6]) g1 (by simp only [overL, List.length_cons, List.length_nil]; omega)
      simp only [int?_int, rvs, Int.reduceBEq, Int.reduceBNe, Int.cast_ofNat_Int, Nat.zero_add, l0, l1, l2, q0, w1, q, s1, s2] at hE
      have b : Mem.But (· = ro) M M2 := b1.trans b2 (fun _ _ e => e)
      obtain ⟨a1, a2, a3⟩ := nx_short (size := size) h0 hl
      rw [a1, a2, a3]
      refine ⟨M2, c36 hE, h.put ([], 6) ⟨xs, by simp⟩ ?_ b, b, by rw [n2, n1]⟩
      rw [g2]
      simp only [overL, List.length_nil, Nat.sub_zero, e1]
    · have q : ¬ ((s.1.length : Int) < (size : Int)) := by omega
      simp only [int?_int, rvs, Int.reduceBEq, Int.reduceBNe, Int.cast_ofNat_Int, Nat.zero_add, l0, l1, l2, q0, w1, q] at hE
      obtain ⟨pre, hpre⟩ := h.tail
      have hpl : pre.length = xs.length - s.1.length := by have := congrArg List.length hpre; rw [List.length_append] at this; omega
      obtain ⟨a1, a2, a3⟩ := nx_read (size := size) h0 (by omega)
      have hx := h.src.ints
      have loop : ∀ (d i : Nat), i + d = size → ∃ M', p36_1 C prog.meth (some (ro, 0)) (size : Int) (numB (s.1.take i) : Int) (i : Int) M = some (.tup [.int .u64 (numB (s.1.take size) : Int), .bool true], M') ∧ Rdr M' ro v xs (s.1.drop size, 0) ∧ Mem.But (· = ro) M M' ∧ M'.n = M.n := by
        intro d
        induction d with
        | zero =>
          intro i hi
          have hF := p36_1_eq C prog.meth (some (ro, 0)) (size : Int) (numB (s.1.take i) : Int) (i : Int) M
          obtain rfl : i = size := by omega
          have q : ¬ ((i : Int) < (i : Int)) := by omega
          have w2 : IntKind.wrap .i64 (((xs.length - s.1.length : Nat) : Int) + (i : Int)) = ((xs.length - s.1.length + i : Nat) : Int) := by rw [wrap_i64 (by omega) (by omega)]; omega
          obtain ⟨M1, s1, g1, n1, b1⟩ := st_at (i := 1) (vs := [.int .i64 ((xs.length - s.1.length + i : Nat) : Int)]) h.g (by simp)
          simp only [overL] at g1
          simp only [int?_int, rvs, Int.reduceBEq, Int.reduceBNe, Int.cast_ofNat_Int, Nat.zero_add, q, l1, w2, s1] at hF
          refine ⟨M1, hF, h.put _ ⟨pre ++ s.1.take i, by rw [List.append_assoc, List.take_append_drop]; exact hpre⟩ ?_ b1, b1, n1⟩
          rw [g1, h0]
          simp only [List.length_drop]
          rw [show xs.length - s.1.length + i = xs.length - (s.1.length - i) by omega]
        | succ d ih =>
          intro i hi
          have hF := p36_1_eq C prog.meth (some (ro, 0)) (size : Int) (numB (s.1.take i) : Int) (i : Int) M
          have q : ((i : Int) < (size : Int)) := by omega
          have w2 : IntKind.wrap .i64 (((xs.length - s.1.length : Nat) : Int) + (i : Int)) = ((xs.length - s.1.length + i : Nat) : Int) := by rw [wrap_i64 (by omega) (by omega)]; omega
          have w4 : IntKind.wrap .i64 ((i : Int) + 1) = ((i + 1 : Nat) : Int) := by rw [wrap_i64 (by omega) (by omega)]; rfl
          have k0 : (0 : Int) ≤ ((xs.length - s.1.length + i : Nat) : Int) := by omega
          have k1 : Nat.blt (xs.length - s.1.length + i) v.2.1 = true := Mem.blt_iff.2 (by omega)
          obtain ⟨p, x, hp, hv, hx8, hxi⟩ := rd8 hx h.byt (j := xs.length - s.1.length + i) (by omega)
          have hxi' : s.1[i]? = some ((x : Nat) : Int) := by
            have e := List.getElem?_append_right (l₁ := pre) (l₂ := s.1) (i := pre.length + i) (by omega)
            rw [← hpre, Nat.add_sub_cancel_left, hpl] at e
            rw [← e]; exact hxi
          have hlt := numB_lt i (s.1.take i) (by simp; omega) (h.bytT.take i)
          have h7 : (256 : Nat) ^ i ≤ 256 ^ 7 := Nat.pow_le_pow_right (by omega) (by omega)
          have w3 : IntKind.wrap .u64 (IntKind.wrap .u64 ((numB (s.1.take i) : Int) * 256) + IntKind.wrap .u64 ((x : Nat) : Int)) = ((numB (s.1.take i) * 256 + x : Nat) : Int) := by
            have a1 : IntKind.wrap .u64 ((numB (s.1.take i) : Int) * 256) = ((numB (s.1.take i) * 256 : Nat) : Int) := by rw [wu64]; omega
            have a2 : IntKind.wrap .u64 ((x : Nat) : Int) = ((x : Nat) : Int) := by rw [wu64]; omega
            rw [a1, a2, wu64]; omega
          have et : numB (s.1.take (i + 1)) = numB (s.1.take i) * 256 + x := by
            rw [List.take_add_one, hxi', Option.toList_some, numB_snoc, Int.toNat_natCast]
          simp only [int?_int, rvs, Int.reduceBEq, Int.reduceBNe, Int.cast_ofNat_Int, Nat.zero_add, q, l0, l1, w2, k0, k1, Int.toNat_natCast, hp, Nat.mul_one, hv, w3, w4] at hF
          rw [hF, ← et]
          exact ih (i + 1) (by omega)
      rw [a1, a2, a3]
      obtain ⟨M1, c1, r1, b1, n1⟩ := loop size 0 (by omega)
      exact ⟨M1, c36 (hE.trans c1), r1, b1, n1⟩
  · have q : (s.2 != 0) = true := by simp [h0]
    simp only [int?_int, rvs, Int.reduceBEq, Int.reduceBNe, Int.cast_ofNat_Int, Nat.zero_add, l2, q] at hE
    obtain ⟨a1, a2, a3⟩ := nx_bad (size := size) h0
    rw [a1, a2, a3]
    exact ⟨M, c36 hE, h, Mem.But.refl _ _, rfl⟩
theorem wrong_C {b r : List Int} {e : Int} (h : Rdr M ro v xs (r, 0)) (ht : ∃ pre, xs = pre ++ (b ++ r)) (hb : b.length = size) : ∃ M', C 38 [.ptr (some (ro, 0)), .int .i64 (size : Int), .int .i64 e] M = some (.tup [], M') ∧ Rdr M' ro v xs (b ++ r, e) ∧ Mem.But (· = ro) M M' ∧ M'.n = M.n := by
  have hE := p38_0_eq C prog.meth (some (ro, 0)) (size : Int) e M
  obtain ⟨l0, l1, l2⟩ := h.rd
  obtain ⟨e1, e2⟩ := h.lens
  have hlim := h.lim
  obtain ⟨pre, hp⟩ := ht
  have hp' := congrArg List.length hp
  simp only [List.length_append] at hp'
  have w1 : IntKind.wrap .i64 (((xs.length - r.length : Nat) : Int) - (size : Int)) = ((xs.length - r.length - size : Nat) : Int) := by rw [wrap_i64 (by omega) (by omega)]; omega
  obtain ⟨M1, s1, g1, n1, b1⟩ := st_at (i := 1) (vs := [.int .i64 ((xs.length - r.length - size : Nat) : Int)]) h.g (by simp)
  simp only [overL] at g1
  obtain ⟨M2, s2, g2, n2, b2⟩ := st_at (i := 2) (vs := [.int .i64 e]) g1 (by simp)
  simp only [overL] at g2
  simp only [int?_int, rvs, Int.reduceBEq, Int.reduceBNe, Int.cast_ofNat_Int, Nat.zero_add, l1, l2, w1, s1, s2] at hE
  have b' : Mem.But (· = ro) M M2 := b1.trans b2 (fun _ _ e => e)
  refine ⟨M2, c38 hE, h.put (b ++ r, e) ⟨pre, hp⟩ ?_ b', b', by rw [n2, n1]⟩
  rw [g2]
  simp only [List.length_append]
  rw [show xs.length - r.length - size = xs.length - (b.length + r.length) by omega]
theorem nx_wrong {ok : List Int → Int} (h : Rdr M ro v xs (nxS size s)) (hs : ∃ pre, xs = pre ++ s.1) (hb : nxB size s = true) (ho : ok (rdB size s) ≠ 0) : ∃ M', C 38 [.ptr (some (ro, 0)), .int .i64 (size : Int), .int .i64 (ok (rdB size s))] M = some (.tup [], M') ∧ Rdr M' ro v xs (rdS size ok s) ∧ Mem.But (· = ro) M M' ∧ M'.n = M.n := by
  obtain ⟨h1, h2⟩ := of_decide_eq_true hb
  obtain ⟨a1, a2, a3⟩ := nx_read (size := size) h1 h2
  rw [a1] at h
  rw [a3] at ho ⊢
  obtain ⟨pre, hp⟩ := hs
  obtain ⟨M1, c1, r1, b1, n1⟩ := wrong_C (e := ok (s.1.take size)) h ⟨pre, by rw [List.take_append_drop]; exact hp⟩ (show (s.1.take size).length = size by simp; omega)
  rw [List.take_append_drop] at r1
  rw [rdS_read h1 h2, if_neg ho]
  exact ⟨M1, c1, r1, b1, n1⟩
theorem nx_right {ok : List Int → Int} (h : nxB size s = true → ok (rdB size s) = 0) : nxS size s = rdS size ok s := by
  unfold nxS
  by_cases hb : nxB size s = true
  · obtain ⟨h1, h2⟩ := of_decide_eq_true hb
    have := h hb
    rw [rdB_read h1 h2] at this
    rw [rdS_read h1 h2, rdS_read h1 h2, if_pos rfl, if_pos this]
  · have hb' : ¬ (s.2 = 0 ∧ size ≤ s.1.length) := fun e => hb (decide_eq_true e)
    by_cases h0 : s.2 = 0
    · rw [rdS_short h0 (by omega), rdS_short h0 (by omega)]
    · rw [rdS_bad h0, rdS_bad h0]
theorem nxB_cnt {lo hi : Nat} (h : (cntS size lo hi s).2 = 0) : cntN size lo hi s = numB (rdB size s) := by unfold cntN; rw [if_pos h]
theorem numB_lt8 (h : Rdr M ro v xs s) (size : Nat) : numB (rdB size s) < 256 ^ size := by
  by_cases hb : nxB size s = true
  · obtain ⟨h1, h2⟩ := of_decide_eq_true hb
    rw [rdB_read h1 h2]
    exact numB_lt size _ (by simp; omega) (h.bytT.take _)
  · have hb' : ¬ (s.2 = 0 ∧ size ≤ s.1.length) := fun e => hb (decide_eq_true e)
    rw [rdB_none (by omega)]
    exact Nat.pow_pos (by omega)
theorem hdR_step {lo : Nat} {c : Int} {i : Nat} (h : Rdr M ro v xs s) (gl : M.get lo = some ⟨[.int .u64 115, .int .u64 112, .int .u64 108, .int .u64 121, .int .u64 1], .fixed⟩) (hlo : lo ≠ ro) (hi : i < 5) {k : Nat} (hc : ([115, 112, 108, 121, 1] : List Nat)[i]? = some k) :
    ∃ M', p35_1 C prog.meth (some (ro, 0)) (some (lo, 0)) 5 (.known 5) (i : Int) M = p35_1 C prog.meth (some (ro, 0)) (some (lo, 0)) 5 (.known 5) ((i + 1 : Nat) : Int) M' ∧ Rdr M' ro v xs (cntS 1 k k s) ∧ Mem.But (· = ro) M M' := by
  have hF := p35_1_eq C prog.meth (some (ro, 0)) (some (lo, 0)) 5 (.known 5) (i : Int) M
  have q : (i : Int) < 5 := by omega
  have k0 : (0 : Int) ≤ (i : Int) := by omega
  have k1 : Nat.blt i 5 = true := Mem.blt_iff.2 hi
  have w : IntKind.wrap .i64 ((i : Int) + 1) = ((i + 1 : Nat) : Int) := by rw [wrap_i64 (by omega) (by omega)]; rfl
  obtain ⟨M1, c1, r1, b1, n1⟩ := next_C (size := 1) h (by omega) (by omega)
  have c1 : C 36 [.ptr (some (ro, 0)), .int .i64 1] M = _ := c1
  have gl1 := (b1.2 lo (Mem.get_lt gl) hlo).trans gl
  have lk : M1.ldI .u64 lo i = some (k : Int) := by
    rw [ldI_at gl1]
    rcases i with _ | _ | _ | _ | _ | i
    · cases hc; rfl
    · cases hc; rfl
    · cases hc; rfl
    · cases hc; rfl
    · cases hc; rfl
    · omega
  simp only [int?_int, rvs, Int.reduceBEq, Int.reduceBNe, Int.cast_ofNat_Int, q] at hF
  rw [c1] at hF
  have okE : ∀ b : List Int, numB b = k → okC k k b = 0 := fun b e => by unfold okC; rw [if_neg (by omega)]
  have okN : ∀ b : List Int, numB b ≠ k → okC k k b = 200 := fun b e => by unfold okC; rw [if_pos (by omega)]
  by_cases hb : nxB 1 s = true
  · by_cases he : numB (rdB 1 s) = k
    · have q2 : ((numB (rdB 1 s) : Int) != (k : Int)) = false := by simp [he]
      simp only [int?_int, rvs, Int.reduceBEq, Int.reduceBNe, Int.cast_ofNat_Int, hb, k0, k1, Int.toNat_natCast, Nat.zero_add, Nat.mul_one, slPtr, lk, q2, w] at hF
      refine ⟨M1, hF, ?_, b1⟩
      have := nx_right (size := 1) (s := s) (ok := okC k k) (fun _ => okE _ he)
      rw [this] at r1; exact r1
    · have q2 : ((numB (rdB 1 s) : Int) != (k : Int)) = true := by simp only [bne_iff_ne, ne_eq]; omega
      obtain ⟨M2, c2, r2, b2, n2⟩ := nx_wrong (size := 1) (ok := okC k k) r1 h.tail hb (by rw [okN _ he]; decide)
      rw [okN _ he] at c2
      have c2 : C 38 [.ptr (some (ro, 0)), .int .i64 1, .int .i64 200] M1 = _ := c2
      simp only [int?_int, rvs, Int.reduceBEq, Int.reduceBNe, Int.cast_ofNat_Int, hb, k0, k1, Int.toNat_natCast, Nat.zero_add, Nat.mul_one, slPtr, lk, q2, c2, w] at hF
      exact ⟨M2, hF, r2, b1.trans b2 (fun _ _ e => e)⟩
  · have hb' : nxB 1 s = false := by simpa using hb
    simp only [int?_int, rvs, Int.reduceBEq, Int.reduceBNe, Int.cast_ofNat_Int, hb', w] at hF
    refine ⟨M1, hF, ?_, b1⟩
    have := nx_right (size := 1) (s := s) (ok := okC k k) (fun e => absurd e hb)
    rw [this] at r1; exact r1
theorem head_C (h : Rdr M ro v xs (xs, 0)) : ∃ (M' : Mem) (nt nc : Nat), C 35 [.ptr (some (ro, 0))] M = some (.tup [.int .i64 (nt : Int), .int .i64 (nc : Int)], M') ∧ Rdr M' ro v xs (unpH xs) ∧ Mem.But (· = ro) M M' ∧ ((unpH xs).2 = 0 → nt = unpNT xs ∧ nc = unpNC xs) := by
  have hE := p35_0_eq C prog.meth (some (ro, 0)) M
  obtain ⟨M1, e1, g1, u1, n1⟩ := alloc_at M ⟨[.int .u64 115, .int .u64 112, .int .u64 108, .int .u64 121, .int .u64 1], .fixed⟩
  simp only [e1] at hE
  have hro := Mem.get_lt h.g
  have h1 := h.upto u1
  have keep : ∀ {Mx My : Mem} {x : AObj}, Mx.get M.n = some x → Mem.But (· = ro) Mx My → My.get M.n = some x := fun ga hb => (hb.2 M.n (Mem.get_lt ga) (by omega)).trans ga
  obtain ⟨Ma', qa, ra, ba⟩ := hdR_step (c := 0) h1 g1 (by omega) (i := 0) (k := 115) (by omega) rfl
  obtain ⟨Mb, qb, rb, bb⟩ := hdR_step (c := 0) ra (keep g1 ba) (by omega) (i := 1) (k := 112) (by omega) rfl
  obtain ⟨Mc, qc, rc, bc⟩ := hdR_step (c := 0) rb (keep (keep g1 ba) bb) (by omega) (i := 2) (k := 108) (by omega) rfl
  obtain ⟨Md', qd, rd, bd⟩ := hdR_step (c := 0) rc (keep (keep (keep g1 ba) bb) bc) (by omega) (i := 3) (k := 121) (by omega) rfl
  obtain ⟨Me, qe, re, be⟩ := hdR_step (c := 0) rd (keep (keep (keep (keep g1 ba) bb) bc) bd) (by omega) (i := 4) (k := 1) (by omega) rfl
  have hE2 := hE.trans (qa.trans (qb.trans (qc.trans (qd.trans qe))))
  have hF := p35_1_eq C prog.meth (some (ro, 0)) (some (M.n, 0)) 5 (.known 5) ((4 + 1 : Nat) : Int) Me
  have q5 : ¬ (((4 + 1 : Nat) : Int) < 5) := by omega
  have re : Rdr Me ro v xs (hdS (xs, 0)) := re
  obtain ⟨Mf, cf, rf, bf, nf⟩ := next_C (size := 1) re (by omega) (by omega)
  have cf : C 36 [.ptr (some (ro, 0)), .int .i64 1] Me = _ := cf
  simp only [int?_int, rvs, Int.reduceBEq, Int.reduceBNe, Int.cast_ofNat_Int, q5] at hF
  rw [cf] at hF
  have b0 : Mem.But (· = ro) M Me := (u1.but _).trans (ba.trans (bb.trans (bc.trans (bd.trans be (fun _ _ e => e)) (fun _ _ e => e)) (fun _ _ e => e)) (fun _ _ e => e)) (fun _ _ e => e)
  have hlt1 := numB_lt8 re 1
  obtain ⟨t0, ht0⟩ : ∃ t, numB (rdB 1 (hdS (xs, 0))) = t := ⟨_, rfl⟩
  have sB : ∃ Mg, p35_0 C prog.meth (some (ro, 0)) M = p35_2 C prog.meth (some (ro, 0)) (t0 : Int) Mg ∧ Rdr Mg ro v xs (cntS 1 0 4 (hdS (xs, 0))) ∧ Mem.But (· = ro) M Mg := by
    rw [ht0] at hF
    by_cases hb : nxB 1 (hdS (xs, 0)) = true
    · by_cases hg : (t0 : Int) > 4
      · have okN : okC 0 4 (rdB 1 (hdS (xs, 0))) = 200 := by unfold okC; rw [if_pos (by omega)]
        obtain ⟨Mg, cg, rg, bg, ng⟩ := nx_wrong (size := 1) (ok := okC 0 4) rf re.tail hb (by rw [okN]; decide)
        rw [okN] at cg
        have cg : C 38 [.ptr (some (ro, 0)), .int .i64 1, .int .i64 200] Mf = _ := cg
        simp only [int?_int, rvs, Int.reduceBEq, Int.reduceBNe, Int.cast_ofNat_Int, hb, hg, cg] at hF
        exact ⟨Mg, hE2.trans hF, rg, b0.trans (bf.trans bg (fun _ _ e => e)) (fun _ _ e => e)⟩
      · simp only [int?_int, rvs, Int.reduceBEq, Int.reduceBNe, Int.cast_ofNat_Int, hb, hg] at hF
        have := nx_right (size := 1) (s := hdS (xs, 0)) (ok := okC 0 4) (fun _ => by unfold okC; rw [if_neg (by omega)])
        rw [this] at rf
        exact ⟨Mf, hE2.trans hF, rf, b0.trans bf (fun _ _ e => e)⟩
    · have hb' : nxB 1 (hdS (xs, 0)) = false := by simpa using hb
      simp only [int?_int, rvs, Int.reduceBEq, Int.reduceBNe, Int.cast_ofNat_Int, hb'] at hF
      have := nx_right (size := 1) (s := hdS (xs, 0)) (ok := okC 0 4) (fun e => absurd e hb)
      rw [this] at rf
      exact ⟨Mf, hE2.trans hF, rf, b0.trans bf (fun _ _ e => e)⟩
  obtain ⟨Mg, eg, rg, bg⟩ := sB
  have hG := p35_2_eq C prog.meth (some (ro, 0)) (t0 : Int) Mg
  obtain ⟨Mh, ch, rh, bh, nh⟩ := next_C (size := 2) rg (by omega) (by omega)
  have ch : C 36 [.ptr (some (ro, 0)), .int .i64 2] Mg = _ := ch
  rw [ch, Option.bind_some] at hG
  have hlt2 := numB_lt8 rg 2
  obtain ⟨c0, hc0⟩ : ∃ t, numB (rdB 2 (cntS 1 0 4 (hdS (xs, 0)))) = t := ⟨_, rfl⟩
  rw [hc0] at hG hlt2
  rw [ht0] at hlt1
  have sC : ∃ Mi, p35_2 C prog.meth (some (ro, 0)) (t0 : Int) Mg = p35_3 C prog.meth (t0 : Int) (c0 : Int) Mi ∧ Rdr Mi ro v xs (unpH xs) ∧ Mem.But (· = ro) M Mi := by
    by_cases hb : nxB 2 (cntS 1 0 4 (hdS (xs, 0))) = true
    · by_cases hz : c0 = 0
      · have okN : okC 1 256 (rdB 2 (cntS 1 0 4 (hdS (xs, 0)))) = 200 := by unfold okC; rw [if_pos (by omega)]
        obtain ⟨Mi, ci, ri, bi, ni⟩ := nx_wrong (size := 2) (ok := okC 1 256) rh rg.tail hb (by rw [okN]; decide)
        rw [okN] at ci
        have ci : C 38 [.ptr (some (ro, 0)), .int .i64 2, .int .i64 200] Mh = _ := ci
        have q : ((c0 : Int) == 0) = true := by simp [hz]
        simp only [int?_int, rvs, Int.reduceBEq, Int.reduceBNe, Int.cast_ofNat_Int, hb, q, ci] at hG
        exact ⟨Mi, hG, ri, bg.trans (bh.trans bi (fun _ _ e => e)) (fun _ _ e => e)⟩
      · have q : ((c0 : Int) == 0) = false := by simp only [beq_eq_false_iff_ne, ne_eq]; omega
        by_cases hg : (c0 : Int) > 256
        · have okN : okC 1 256 (rdB 2 (cntS 1 0 4 (hdS (xs, 0)))) = 200 := by unfold okC; rw [if_pos (by omega)]
          obtain ⟨Mi, ci, ri, bi, ni⟩ := nx_wrong (size := 2) (ok := okC 1 256) rh rg.tail hb (by rw [okN]; decide)
          rw [okN] at ci
          have ci : C 38 [.ptr (some (ro, 0)), .int .i64 2, .int .i64 200] Mh = _ := ci
          simp only [int?_int, rvs, Int.reduceBEq, Int.reduceBNe, Int.cast_ofNat_Int, hb, q, hg, ci] at hG
          exact ⟨Mi, hG, ri, bg.trans (bh.trans bi (fun _ _ e => e)) (fun _ _ e => e)⟩
        · simp only [int?_int, rvs, Int.reduceBEq, Int.reduceBNe, Int.cast_ofNat_Int, hb, q, hg] at hG
          have := nx_right (size := 2) (s := cntS 1 0 4 (hdS (xs, 0))) (ok := okC 1 256) (fun _ => by unfold okC; rw [if_neg (by omega)])
          rw [this] at rh
          exact ⟨Mh, hG, rh, bg.trans bh (fun _ _ e => e)⟩
    · have hb' : nxB 2 (cntS 1 0 4 (hdS (xs, 0))) = false := by simpa using hb
      simp only [int?_int, rvs, Int.reduceBEq, Int.reduceBNe, Int.cast_ofNat_Int, hb'] at hG
      have := nx_right (size := 2) (s := cntS 1 0 4 (hdS (xs, 0))) (ok := okC 1 256) (fun e => absurd e hb)
      rw [this] at rh
      exact ⟨Mh, hG, rh, bg.trans bh (fun _ _ e => e)⟩
  obtain ⟨Mi, ei, ri, bi⟩ := sC
  have hH := p35_3_eq C prog.meth (t0 : Int) (c0 : Int) Mi
  have w1 : IntKind.wrap .i64 (t0 : Int) = (t0 : Int) := wrap_i64 (by omega) (by omega)
  have w2 : IntKind.wrap .i64 (c0 : Int) = (c0 : Int) := wrap_i64 (by omega) (by omega)
  rw [w1, w2] at hH
  refine ⟨Mi, t0, c0, c35 (eg.trans (ei.trans hH)), ri, bi, fun hz => ?_⟩
  have hz2 : (cntS 1 0 4 (hdS (xs, 0))).2 = 0 := by
    by_cases e : (cntS 1 0 4 (hdS (xs, 0))).2 = 0
    · exact e
    · unfold unpH at hz
      rw [cnt_bad e] at hz; exact hz
  exact ⟨by rw [← ht0]; exact (nxB_cnt hz2).symm, by rw [← hc0]; exact (nxB_cnt hz).symm⟩
end
end Go.Proofs.Ytmkncifbammfjaa.M
namespace Go.Proofs.Ytmkncifbammfjaa.M
open Go.Abs
section
variable {M M' : Mem} {ro mo : Nat} {v ca ta : SlV} {xs : List Int} {s : Rs} {L : List Ins} {tvs : List SlV} {Ts : List (List Pr)}
theorem pairs_loopR {n Mb : Nat} (hn : n < 1000) (hro : ro < Mb) (hv : ∀ o ∈ fpS v, o < Mb) : ∀ (d i : Nat) (M : Mem) (L : List Pr) (s : Rs) (ra : SlV), i + d = n → Mb ≤ M.n → Rdr M ro v xs s → (s.2 = 0 → Row M 2 encP ra.1 ra.2.1 ra.2.2 L ∧ L.length = i) → (∀ o ∈ fpOf ra.1, Mb ≤ o ∧ o < M.n) →
    ∃ (M' : Mem) (rb : SlV), p39_2 C prog.meth (some (ro, 0)) (n : Int) ra.1 ra.2.1 ra.2.2 (i : Int) M = some (.sl rb.1 rb.2.1 rb.2.2, M') ∧ Rdr M' ro v xs (pairsS d (L, s)).2 ∧ ((pairsS d (L, s)).2.2 = 0 → Row M' 2 encP rb.1 rb.2.1 rb.2.2 (pairsS d (L, s)).1) ∧
      Mem.But (fun o => o = ro ∨ Mb ≤ o) M M' ∧ (∀ o ∈ fpOf rb.1, Mb ≤ o ∧ o < M'.n) := by
  intro d
  induction d with
  | zero =>
    intro i M L s ra hi hMb h hL hf
    have hF := p39_2_eq C prog.meth (some (ro, 0)) (n : Int) ra.1 ra.2.1 ra.2.2 (i : Int) M
    have w : IntKind.wrap .i64 (n : Int) = (n : Int) := wrap_i64 (by omega) (by omega)
    have q : ¬ ((i : Int) < (n : Int)) := by omega
    simp only [int?_int, rvs, Int.reduceBEq, Int.reduceBNe, Int.cast_ofNat_Int, w, q] at hF
    exact ⟨M, ra, hF, h, fun e => (hL e).1, Mem.But.refl _ _, hf⟩
  | succ d ih =>
    intro i M L s ra hi hMb h hL hf
    have hF := p39_2_eq C prog.meth (some (ro, 0)) (n : Int) ra.1 ra.2.1 ra.2.2 (i : Int) M
    have w : IntKind.wrap .i64 (n : Int) = (n : Int) := wrap_i64 (by omega) (by omega)
    have q : ((i : Int) < (n : Int)) := by omega
    have w4 : IntKind.wrap .i64 ((i : Int) + 1) = ((i + 1 : Nat) : Int) := by rw [wrap_i64 (by omega) (by omega)]; rfl
    obtain ⟨l0, l1, l2⟩ := h.rd
    obtain ⟨le1, le2⟩ := h.lens
    have hlim := h.lim
    by_cases h0 : s.2 = 0
    · have q0 : (s.2 == 0) = true := by simp [h0]
      obtain ⟨hR, hLl⟩ := hL h0
      have hRl := hR.length
      simp only [int?_int, rvs, Int.reduceBEq, Int.reduceBNe, Int.cast_ofNat_Int, Nat.zero_add, w, q, l2, q0] at hF
      have hG := p39_3_eq C prog.meth (some (ro, 0)) (n : Int) ra.1 ra.2.1 ra.2.2 (i : Int) M
      have w1 : IntKind.wrap .i64 ((v.2.1 : Int) - ((xs.length - s.1.length : Nat) : Int)) = (s.1.length : Int) := by rw [wrap_i64 (by omega) (by omega)]; omega
      by_cases hl : s.1.length < 16
      · have q1 : (s.1.length : Int) < 16 := by omega
        obtain ⟨M1, s1, g1, n1, b1⟩ := st_at (i := 1) (vs := [.int .i64 (v.2.1 : Int)]) h.g (by simp)
        obtain ⟨M2, s2, g2, n2, b2⟩ := st_at (i := 2) (vs := [.int .i64 6]) g1 (by simp only [overL, List.length_cons, List.length_nil]; omega)
        simp only [int?_int, rvs, Int.reduceBEq, Int.reduceBNe, Int.cast_ofNat_Int, Nat.zero_add, l0, l1, w1, q1, s1, s2] at hG
        have b : Mem.But (· = ro) M M2 := b1.trans b2 (fun _ _ e => e)
        have r2 : Rdr M2 ro v xs ([], 6) := h.put ([], 6) ⟨xs, by simp⟩ (by
          rw [g2]
          simp only [overL, List.length_nil, Nat.sub_zero, le1]) b
        have eP : pairsS (d + 1) (L, s) = (L, ([], 6)) := by
          have e1 : prT (L, s) = (L, ([], 6)) := by
            have : rdS 16 (okP L) s = ([], 6) := rdS_short h0 hl
            unfold prT; rw [this]; rfl
          rw [pairsS, e1, pairs_bad d (by simp)]
        rw [eP]
        exact ⟨M2, (none, 0, .known 0), hF.trans hG, r2, fun e => by simp at e, b.mono (fun o e => .inl e), fun o ho => by simp [fpOf] at ho⟩
      · have q1 : ¬ ((s.1.length : Int) < 16) := by omega
        obtain ⟨a1, a2, a3⟩ := nx_read (size := 8) h0 (show 8 ≤ s.1.length by omega)
        obtain ⟨M1, c1, r1, b1, n1⟩ := next_C (size := 8) h (by omega) (by omega)
        rw [a1] at r1
        rw [a2, a3] at c1
        obtain ⟨a4, a5, a6⟩ := nx_read (s := (s.1.drop 8, 0)) (size := 8) rfl (show 8 ≤ (s.1.drop 8).length by simp; omega)
        obtain ⟨M2, c2, r2, b2, n2⟩ := next_C (size := 8) r1 (by omega) (by omega)
        rw [a4] at r2
        rw [a5, a6] at c2
        simp only [List.drop_drop] at r2
        have c1 : C 36 [.ptr (some (ro, 0)), .int .i64 8] M = _ := c1
        have c2 : C 36 [.ptr (some (ro, 0)), .int .i64 8] M1 = _ := c2
        simp only [int?_int, rvs, Int.reduceBEq, Int.reduceBNe, Int.cast_ofNat_Int, Nat.zero_add, l0, l1, w1, q1] at hG
        rw [c1, Option.bind_some] at hG
        simp only [int?_int, rvs, Int.reduceBEq, Int.reduceBNe, Int.cast_ofNat_Int] at hG
        rw [c2, Option.bind_some] at hG
        simp only [int?_int, rvs, Int.reduceBEq, Int.reduceBNe, Int.cast_ofNat_Int] at hG
        obtain ⟨k1, hk1⟩ : ∃ k, numB (s.1.take 8) = k := ⟨_, rfl⟩
        obtain ⟨k2, hk2⟩ : ∃ k, numB ((s.1.drop 8).take 8) = k := ⟨_, rfl⟩
        have ek1 : numB ((s.1.take 16).take 8) = k1 := by rw [List.take_take]; exact hk1
        have ek2 : numB ((s.1.take 16).drop 8) = k2 := by rw [List.drop_take]; exact hk2
        have eB : prB (s.1.take 16) = ((k1 : Int), (k2 : Int)) := by unfold prB; rw [ek1, ek2]
        rw [hk1, hk2] at hG
        have b12 : Mem.But (· = ro) M M2 := b1.trans b2 (fun _ _ e => e)
        have hR2 := hR.same (M' := M2) (fun o ho => b12.2 o (hf o ho).2 (fun e => by have := hf o ho; omega))
        have hl16 : (s.1.take 16).length = 16 := by simp; omega
        have tail4 : ∀ (M3 : Mem) (s3 : Rs), M3.n = M2.n → Rdr M3 ro v xs s3 → Mem.But (· = ro) M M3 → prT (L, s) = (if s3.2 = 0 then L ++ [((k1 : Int), (k2 : Int))] else L, s3) → p39_3 C prog.meth (some (ro, 0)) (n : Int) ra.1 ra.2.1 ra.2.2 (i : Int) M = p39_4 C prog.meth (some (ro, 0)) (n : Int) ra.1 ra.2.1 ra.2.2 (i : Int) (k1 : Int) (k2 : Int) M3 →
            ∃ (M' : Mem) (rb : SlV), p39_2 C prog.meth (some (ro, 0)) (n : Int) ra.1 ra.2.1 ra.2.2 (i : Int) M = some (.sl rb.1 rb.2.1 rb.2.2, M') ∧ Rdr M' ro v xs (pairsS (d + 1) (L, s)).2 ∧ ((pairsS (d + 1) (L, s)).2.2 = 0 → Row M' 2 encP rb.1 rb.2.1 rb.2.2 (pairsS (d + 1) (L, s)).1) ∧
              Mem.But (fun o => o = ro ∨ Mb ≤ o) M M' ∧ (∀ o ∈ fpOf rb.1, Mb ≤ o ∧ o < M'.n) := fun M3 s3 hn3 r3 b3 hp3 hg3 => by
          have hH := p39_4_eq C prog.meth (some (ro, 0)) (n : Int) ra.1 ra.2.1 ra.2.2 (i : Int) (k1 : Int) (k2 : Int) M3
          have hR3 := hR.same (M' := M3) (fun o ho => b3.2 o (hf o ho).2 (fun e => by have := hf o ho; omega))
          obtain ⟨M4, q1, q2, q3, q4, q5⟩ := hR3.push (bytes := 16) (y := ((k1 : Int), (k2 : Int))) (cs := [.int .u64 (k1 : Int), .int .u64 (k2 : Int)]) encP2 (by omega) rfl (by omega)
          simp only [] at hH
          rw [q1] at hH
          simp only [w4] at hH
          have hb3 := b3.1
          have r4 : Rdr M4 ro v xs s3 := r3.but q4 (fun e => by have := hf ro e; omega) (fun o ho e => by have := hf o e; have := hv o ho; omega)
          obtain ⟨M5, rb, c5, r5, l5, b5, f5⟩ := ih (i + 1) M4 (if s3.2 = 0 then L ++ [((k1 : Int), (k2 : Int))] else L) s3 (some (M3.n + 1, 0), ra.2.1 + 1, .unk 0) (by omega) (by omega) r4 (fun e => by
            rw [if_pos e]; exact ⟨q2, by simp; omega⟩) (fun o ho => by simp only [fpOf, List.mem_singleton] at ho; omega)
          rw [pairsS, hp3]
          refine ⟨M5, rb, hF.trans (hg3.trans (hH.trans c5)), r5, l5, ?_, f5⟩
          exact (b3.mono (fun o e => .inl e)).trans ((q4.mono (S' := fun o => o = ro ∨ Mb ≤ o) (fun o e => .inr (hf o e).1)).trans b5 (fun _ _ e => e)) (fun _ _ e => e)
        have good : okP L (s.1.take 16) = 0 → p39_3 C prog.meth (some (ro, 0)) (n : Int) ra.1 ra.2.1 ra.2.2 (i : Int) M = p39_4 C prog.meth (some (ro, 0)) (n : Int) ra.1 ra.2.1 ra.2.2 (i : Int) (k1 : Int) (k2 : Int) M2 → _ := fun hok hg => tail4 M2 (s.1.drop 16, 0) rfl (by rw [show 16 = 8 + 8 from rfl]; exact r2) b12 (by
          have : rdS 16 (okP L) s = (s.1.drop 16, 0) := by rw [rdS_read h0 (by omega), if_pos hok]
          unfold prT
          rw [this, rdB_read h0 (by omega), eB]) hg
        by_cases hi0 : i = 0
        · have q2 : ¬ ((i : Int) > 0) := by omega
          simp only [q2, decide_false, cond_false] at hG
          refine good ?_ hG
          have : L = [] := List.length_eq_zero_iff.1 (by omega)
          rw [this]; rfl
        · have q2 : ((i : Int) > 0) := by omega
          have w3 : IntKind.wrap .i64 ((i : Int) - 1) = ((i - 1 : Nat) : Int) := by rw [wrap_i64 (by omega) (by omega)]; omega
          have k0 : (0 : Int) ≤ ((i - 1 : Nat) : Int) := by omega
          have k1' : Nat.blt (i - 1) ra.2.1 = true := Mem.blt_iff.2 (by omega)
          obtain ⟨p, hp, hv', _⟩ := pr_ld hR2.sl (i := i - 1) (by omega)
          have eq : L.getLast? = some (L[i - 1]'(by omega)) := by rw [List.getLast?_eq_getElem?, show L.length - 1 = i - 1 by omega, List.getElem?_eq_getElem (by omega)]
          by_cases h1 : (k1 : Int) ≤ (L[i - 1]'(by omega)).1
          · have hok : okP L (s.1.take 16) = 190 := by
              unfold okP
              rw [eq, ek1]
              simp only
              rw [if_pos h1]
            obtain ⟨pre, hpre⟩ := h.tail
            obtain ⟨M3, c3, r3, b3, n3⟩ := wrong_C (size := 16) (b := s.1.take 16) (r := s.1.drop 16) (e := 190) (by rw [show 16 = 8 + 8 from rfl]; exact r2) ⟨pre, by rw [List.take_append_drop]; exact hpre⟩ hl16
            have c3 : C 38 [.ptr (some (ro, 0)), .int .i64 16, .int .i64 190] M2 = _ := c3
            rw [List.take_append_drop] at r3
            simp only [int?_int, rvs, Int.reduceBEq, Int.reduceBNe, Int.cast_ofNat_Int, Nat.add_zero, q2, w3, k0, k1', Int.toNat_natCast, hp, hv', h1, c3] at hG
            exact tail4 M3 (s.1, 190) n3 r3 (b12.trans b3 (fun _ _ e => e)) (by
              have : rdS 16 (okP L) s = (s.1, 190) := by rw [rdS_read h0 (by omega), hok, if_neg (by decide)]
              unfold prT
              rw [this]; rfl) hG
          · simp only [int?_int, rvs, Int.reduceBEq, Int.reduceBNe, Int.cast_ofNat_Int, Nat.add_zero, q2, w3, k0, k1', Int.toNat_natCast, hp, hv', h1] at hG
            refine good ?_ hG
            unfold okP
            rw [eq, ek1]
            simp only
            rw [if_neg h1]
    · have q0 : (s.2 == 0) = false := by simp [h0]
      simp only [int?_int, rvs, Int.reduceBEq, Int.reduceBNe, Int.cast_ofNat_Int, Nat.zero_add, w, q, l2, q0] at hF
      rw [pairs_bad (d + 1) h0]
      exact ⟨M, ra, hF, h, fun e => absurd e h0, Mem.But.refl _ _, hf⟩
theorem pairsR_C (h : Rdr M ro v xs s) : ∃ (M' : Mem) (ra : SlV), C 39 [.ptr (some (ro, 0))] M = some (.sl ra.1 ra.2.1 ra.2.2, M') ∧ Rdr M' ro v xs (tabS s).2 ∧ ((tabS s).2.2 = 0 → Row M' 2 encP ra.1 ra.2.1 ra.2.2 (tabS s).1) ∧ Mem.But (· = ro) M M' ∧ (∀ o ∈ fpOf ra.1, M.n ≤ o ∧ o < M'.n) := by
  have hE := p39_0_eq C prog.meth (some (ro, 0)) M
  obtain ⟨M1, c1, r1, b1, n1⟩ := next_C (size := 1) h (by omega) (by omega)
  have c1 : C 36 [.ptr (some (ro, 0)), .int .i64 1] M = _ := c1
  rw [c1, Option.bind_some] at hE
  have hlt := numB_lt8 h 1
  obtain ⟨t0, ht0⟩ : ∃ t, numB (rdB 1 s) = t := ⟨_, rfl⟩
  rw [ht0] at hE hlt
  have hro := Mem.get_lt h.g
  have sB : ∃ M2, p39_0 C prog.meth (some (ro, 0)) M = p39_1 C prog.meth (some (ro, 0)) (t0 : Int) M2 ∧ Rdr M2 ro v xs (cntS 1 0 64 s) ∧ Mem.But (· = ro) M M2 := by
    by_cases hb : nxB 1 s = true
    · by_cases hg : (t0 : Int) > 64
      · have okN : okC 0 64 (rdB 1 s) = 200 := by unfold okC; rw [if_pos (by omega)]
        obtain ⟨Mg, cg, rg, bg, ng⟩ := nx_wrong (size := 1) (ok := okC 0 64) r1 h.tail hb (by rw [okN]; decide)
        rw [okN] at cg
        have cg : C 38 [.ptr (some (ro, 0)), .int .i64 1, .int .i64 200] M1 = _ := cg
        simp only [int?_int, rvs, Int.reduceBEq, Int.reduceBNe, Int.cast_ofNat_Int, hb, hg, cg] at hE
        exact ⟨Mg, hE, rg, b1.trans bg (fun _ _ e => e)⟩
      · simp only [int?_int, rvs, Int.reduceBEq, Int.reduceBNe, Int.cast_ofNat_Int, hb, hg] at hE
        have := nx_right (size := 1) (s := s) (ok := okC 0 64) (fun _ => by unfold okC; rw [if_neg (by omega)])
        rw [this] at r1
        exact ⟨M1, hE, r1, b1⟩
    · have hb' : nxB 1 s = false := by simpa using hb
      simp only [int?_int, rvs, Int.reduceBEq, Int.reduceBNe, Int.cast_ofNat_Int, hb'] at hE
      have := nx_right (size := 1) (s := s) (ok := okC 0 64) (fun e => absurd e hb)
      rw [this] at r1
      exact ⟨M1, hE, r1, b1⟩
  obtain ⟨M2, e2, r2, b2⟩ := sB
  have hF := p39_1_eq C prog.meth (some (ro, 0)) (t0 : Int) M2
  have hb2 := b2.1
  obtain ⟨M3, rb, c3, r3, l3, b3, f3⟩ := pairs_loopR (n := t0) (Mb := M.n) (v := v) (by omega) hro h.src.lt t0 0 M2 [] (cntS 1 0 64 s) (none, 0, .known 0) (by omega) hb2 r2 (fun _ => ⟨Row.nil _ _ _, rfl⟩) (fun o ho => by simp [fpOf] at ho)
  have eT : pairsS t0 ([], cntS 1 0 64 s) = tabS s := by
    unfold tabS
    by_cases hz : (cntS 1 0 64 s).2 = 0
    · rw [nxB_cnt hz, ht0]
    · rw [pairs_bad _ hz, pairs_bad _ hz]
  rw [eT] at r3 l3
  refine ⟨M3, rb, c39 (e2.trans (hF.trans c3)), r3, l3, ⟨by have := b3.1; omega, fun o ho hne => ?_⟩, f3⟩
  rw [b3.2 o (by omega) (fun e => by omega), b2.2 o ho hne]
structure Mb (M : Mem) (ro : Nat) (v : SlV) (xs : List Int) (mo : Nat) (s : Rs) (ca ta : SlV) (L : List Ins) (tvs : List SlV) (Ts : List (List Pr)) : Prop where
  r : Rdr M ro v xs s
  gm : M.get mo = some ⟨[.sl ca.1 ca.2.1 ca.2.2, .sl ta.1 ta.2.1 ta.2.2], .fixed⟩
  lc : Row M 5 encI ca.1 ca.2.1 ca.2.2 L
  lt : Row M 1 encS ta.1 ta.2.1 ta.2.2 tvs
  tv : s.2 = 0 → Tbs M tvs Ts
  fc : ∀ o ∈ fpOf ca.1, mo < o ∧ o < M.n
  ft : ∀ o ∈ fpOf ta.1, mo < o ∧ o < M.n ∧ o ∉ fpOf ca.1
  fv : ∀ w ∈ tvs, ∀ o ∈ fpOf w.1, mo < o ∧ o < M.n ∧ o ∉ fpOf ta.1 ∧ o ∉ fpOf ca.1
  ord : ro < mo ∧ ∀ o ∈ fpS v, o < mo
theorem Mb.rd (H : Mb M ro v xs mo s ca ta L tvs Ts) : M.ldL mo 0 = some ca ∧ M.ldL mo 1 = some ta := by
  refine ⟨?_, ?_⟩
  · rw [ldL_at H.gm]; rfl
  · rw [ldL_at H.gm]; rfl
theorem Mb.read (H : Mb M ro v xs mo s ca ta L tvs Ts) {s' : Rs} (hr : Rdr M' ro v xs s') (hb : Mem.But (· = ro) M M') (h0 : s.2 = 0) : Mb M' ro v xs mo s' ca ta L tvs Ts := by
  obtain ⟨o1, o3⟩ := H.ord
  have hm := Mem.get_lt H.gm
  have hn := hb.1
  exact ⟨hr, (hb.2 mo hm (by omega)).trans H.gm, H.lc.same (fun o ho => hb.2 o (H.fc o ho).2 (by have := H.fc o ho; omega)), H.lt.same (fun o ho => hb.2 o (H.ft o ho).2.1 (by have := H.ft o ho; omega)),
    fun _ => (H.tv h0).same (fun w hw o ho => hb.2 o (H.fv w hw o ho).2.1 (by have := H.fv w hw o ho; omega)), fun o ho => by have := H.fc o ho; omega, fun o ho => by have := H.ft o ho; exact ⟨this.1, by omega, this.2.2⟩, fun w hw o ho => by have := H.fv w hw o ho; exact ⟨this.1, by omega, this.2.2⟩, H.ord⟩
theorem codeR_step (H : Mb M ro v xs mo s ca ta L tvs Ts) (h0 : s.2 = 0) (hl : L.length ≤ 100000) {res nt nc i : Nat} (hi : i < nc) (hnc : nc ≤ 100000) : ∃ (M' : Mem) (cb : SlV), p18_1 C prog.meth v.1 v.2.1 v.2.2 res (some (ro, 0)) (nt : Int) (nc : Int) mo (i : Int) M = p18_1 C prog.meth v.1 v.2.1 v.2.2 res (some (ro, 0)) (nt : Int) (nc : Int) mo ((i + 1 : Nat) : Int) M' ∧
    Mb M' ro v xs mo (insS s) cb ta (L ++ [insX s]) tvs Ts ∧ Mem.But (fun o => o = ro ∨ mo ≤ o) M M' := by
  have hE := p18_1_eq C prog.meth v.1 v.2.1 v.2.2 res (some (ro, 0)) (nt : Int) (nc : Int) mo (i : Int) M
  have hF := p18_2_eq C prog.meth v.1 v.2.1 v.2.2 res (some (ro, 0)) (nt : Int) (nc : Int) mo (i : Int) M
  obtain ⟨o1, o3⟩ := H.ord
  obtain ⟨l0, l1, l2⟩ := H.r.rd
  have q : (i : Int) < (nc : Int) := by omega
  have q0 : (s.2 == 0) = true := by simp [h0]
  have w : IntKind.wrap .i64 ((i : Int) + 1) = ((i + 1 : Nat) : Int) := by rw [wrap_i64 (by omega) (by omega)]; rfl
  simp only [int?_int, rvs, Int.reduceBEq, Int.reduceBNe, Int.cast_ofNat_Int, Nat.zero_add, q, l2, q0] at hE
  obtain ⟨M1, c1, r1, b1, n1⟩ := next_C (size := 8) H.r (by omega) (by omega)
  have c1 : C 36 [.ptr (some (ro, 0)), .int .i64 8] M = _ := c1
  have hlt := numB_lt8 H.r 8
  obtain ⟨Md', d1, _⟩ := RDecode_C (M := Mem.empty) (w := numB (rdB 8 s)) (by omega)
  rw [readC_dec] at d1
  have eX : decI (numB (rdB 8 s)) = insX s := rfl
  have eK : errI (okB (opW (numB (rdB 8 s))) (dW (numB (rdB 8 s))) (sW (numB (rdB 8 s))) (oW (numB (rdB 8 s))) (iW (numB (rdB 8 s)))) = okI8 (rdB 8 s) := rfl
  rw [eX, eK] at d1
  obtain ⟨M2, e2, g2, u2, n2⟩ := alloc_at M1 ⟨[.int .u8 0, .int .u8 0, .int .u8 0, .int .i16 0, .int .i32 0], .fixed⟩
  obtain ⟨M3, s3, g3, n3, b3⟩ := st_at (i := 0) (vs := encI (insX s)) g2 (by rw [encI5]; simp)
  have eo : overL [.int .u8 0, .int .u8 0, .int .u8 0, .int .i16 0, .int .i32 0] 0 (encI (insX s)) = encI (insX s) := rfl
  rw [eo] at g3
  unfold encI at d1 s3
  rw [c1, Option.bind_some] at hF
  simp only [int?_int, rvs, Int.reduceBEq, Int.reduceBNe, Int.cast_ofNat_Int] at hF
  rw [d1, Option.bind_some] at hF
  simp only [int?_int, rvs, Int.reduceBEq, Int.reduceBNe, Int.cast_ofNat_Int, e2, s3] at hF
  have u3 : M1.Upto M3 := ⟨by omega, fun o ho => by rw [b3.2 o (by omega) (by omega), u2.2 o ho]⟩
  have r3 := r1.upto u3
  have sW' : ∃ M4, p18_2 C prog.meth v.1 v.2.1 v.2.2 res (some (ro, 0)) (nt : Int) (nc : Int) mo (i : Int) M = p18_4 C prog.meth v.1 v.2.1 v.2.2 res (some (ro, 0)) (nt : Int) (nc : Int) mo (i : Int) M1.n M4 ∧ Rdr M4 ro v xs (insS s) ∧ Mem.But (· = ro) M3 M4 ∧ M4.n = M3.n := by
    by_cases hb : nxB 8 s = true
    · by_cases hk : okI8 (rdB 8 s) = 0
      · have q1 : (okI8 (rdB 8 s) != 0) = false := by simp [hk]
        simp only [int?_int, rvs, Int.reduceBEq, Int.reduceBNe, Int.cast_ofNat_Int, hb, q1] at hF
        have := nx_right (size := 8) (s := s) (ok := okI8) (fun _ => hk)
        rw [this] at r3
        exact ⟨M3, hF, r3, Mem.But.refl _ _, rfl⟩
      · have q1 : (okI8 (rdB 8 s) != 0) = true := by simp [hk]
        obtain ⟨M4, c4, r4, b4, n4⟩ := nx_wrong (size := 8) (ok := okI8) r3 H.r.tail hb hk
        have c4 : C 38 [.ptr (some (ro, 0)), .int .i64 8, .int .i64 (okI8 (rdB 8 s))] M3 = _ := c4
        simp only [int?_int, rvs, Int.reduceBEq, Int.reduceBNe, Int.cast_ofNat_Int, hb, q1, c4] at hF
        exact ⟨M4, hF, r4, b4, n4⟩
    · have hb' : nxB 8 s = false := by simpa using hb
      simp only [int?_int, rvs, Int.reduceBEq, Int.reduceBNe, Int.cast_ofNat_Int, hb'] at hF
      have := nx_right (size := 8) (s := s) (ok := okI8) (fun e => absurd e hb)
      rw [this] at r3
      exact ⟨M3, hF, r3, Mem.But.refl _ _, rfl⟩
  obtain ⟨M4, e4, r4, b4, n4⟩ := sW'
  have hm0 := Mem.get_lt H.gm
  have b04 : Mem.But (· = ro) M M4 := b1.trans ((u3.but _).trans b4 (fun _ _ e => e)) (fun _ _ e => e)
  have H4 := H.read r4 b04 h0
  have g4 : M4.get M1.n = some ⟨encI (insX s), .fixed⟩ := by rw [b4.2 _ (by omega) (by omega)]; exact g3
  have hG := p18_4_eq C prog.meth v.1 v.2.1 v.2.2 res (some (ro, 0)) (nt : Int) (nc : Int) mo (i : Int) M1.n M4
  obtain ⟨p1, p2⟩ := H4.rd
  have x0 : M4.ldI .u8 M1.n 0 = some ((insX s).1 : Int) := by rw [ldI_at g4]; rfl
  have x1 : M4.ldI .u8 M1.n 1 = some (insX s).2.1 := by rw [ldI_at g4]; rfl
  have x2 : M4.ldI .u8 M1.n 2 = some (insX s).2.2.1 := by rw [ldI_at g4]; rfl
  have x3 : M4.ldI .i16 M1.n 3 = some (insX s).2.2.2.1 := by rw [ldI_at g4]; rfl
  have x4 : M4.ldI .i32 M1.n 4 = some (insX s).2.2.2.2 := by rw [ldI_at g4]; rfl
  have hlc := H4.lc.length
  obtain ⟨M5, q1, q2, q3, q4, q5⟩ := H4.lc.push (bytes := 12) (y := insX s) encI5 (by omega) rfl (by omega)
  have hm := Mem.get_lt H4.gm
  have gm5 := (q4.2 mo hm (fun e => by have := H4.fc mo e; omega)).trans H4.gm
  obtain ⟨M6, s6, g6, n6, b6⟩ := st_at (i := 0) (vs := [.sl (some (M4.n + 1, 0)) (ca.2.1 + 1) (.unk 0)]) gm5 (by simp)
  simp only [overL] at g6
  unfold encI at q1
  simp only [int?_int, rvs, Int.reduceBEq, Int.reduceBNe, Int.cast_ofNat_Int, p1, x0, x1, x2, x3, x4] at hG
  rw [q1] at hG
  simp only [int?_int, rvs, Int.reduceBEq, Int.reduceBNe, Int.cast_ofNat_Int, s6, w] at hG
  have hn4 := b04.1
  have f3 : ∀ o, mo < o → o < M4.n → o ∉ fpOf ca.1 → M6.get o = M4.get o := fun o h1 h2 h3 => by rw [b6.2 o (by omega) (by omega), q4.2 o h2 h3]
  have f4 : ∀ o, o < mo → M6.get o = M4.get o := fun o h1 => by rw [b6.2 o (by omega) (by omega), q4.2 o (by omega) (fun e => by have := H4.fc o e; omega)]
  refine ⟨M6, (some (M4.n + 1, 0), ca.2.1 + 1, .unk 0), hE.trans (e4.trans hG), ⟨r4.same (f4 ro (by omega)) (fun o ho => f4 o (by have := o3 o ho; omega)), g6, q2.same (fun o ho => ?_), H4.lt.same (fun o ho => ?_), fun e => (H4.tv e).same (fun w hw o ho => ?_), fun o ho => ?_, fun o ho => ?_, fun w hw o ho => ?_, H4.ord⟩, ⟨by omega, fun o ho hne => ?_⟩⟩
  · simp only [fpOf, List.mem_singleton] at ho
    exact b6.2 o (by omega) (by omega)
  · have := H4.ft o ho; exact f3 o this.1 this.2.1 this.2.2
  · have := H4.fv w hw o ho; exact f3 o this.1 this.2.1 this.2.2.2
  · simp only [fpOf, List.mem_singleton] at ho; omega
  · have := H4.ft o ho; exact ⟨this.1, by omega, by simp only [fpOf, List.mem_singleton]; omega⟩
  · have := H4.fv w hw o ho; exact ⟨this.1, by omega, this.2.2.1, by simp only [fpOf, List.mem_singleton]; omega⟩
  · have h1 : o ≠ ro := fun e => hne (.inl e)
    have h2 : o < mo := by
      by_cases h2 : o < mo
      · exact h2
      · exact absurd (.inr (by omega)) hne
    rw [f4 o (by omega), b04.2 o ho h1]
theorem codeR_loop {res nt nc : Nat} (hnc : nc ≤ 100000) : ∀ (d i : Nat) (M : Mem) (s : Rs) (L : List Ins) (ca : SlV), i + d = nc → L.length ≤ i → Mb M ro v xs mo s ca ta L tvs Ts →
    ∃ (M' : Mem) (cb : SlV) (Lx : List Ins), p18_1 C prog.meth v.1 v.2.1 v.2.2 res (some (ro, 0)) (nt : Int) (nc : Int) mo (i : Int) M = p18_3 C prog.meth v.1 v.2.1 v.2.2 res (some (ro, 0)) (nt : Int) mo 0 M' ∧ Mb M' ro v xs mo (codeS d s).2 cb ta Lx tvs Ts ∧ ((codeS d s).2.2 = 0 → Lx = L ++ (codeS d s).1) ∧ Mem.But (fun o => o = ro ∨ mo ≤ o) M M' := by
  intro d
  induction d with
  | zero =>
    intro i M s L ca hi hl H
    have hE := p18_1_eq C prog.meth v.1 v.2.1 v.2.2 res (some (ro, 0)) (nt : Int) (nc : Int) mo (i : Int) M
    have q : ¬ ((i : Int) < (nc : Int)) := by omega
    simp only [int?_int, rvs, Int.reduceBEq, Int.reduceBNe, Int.cast_ofNat_Int, q] at hE
    exact ⟨M, ca, L, hE, H, fun _ => by rw [codeS, List.append_nil], Mem.But.refl _ _⟩
  | succ d ih =>
    intro i M s L ca hi hl H
    by_cases h0 : s.2 = 0
    · obtain ⟨M1, cb, e1, H1, b1⟩ := codeR_step H h0 (by omega) (res := res) (nt := nt) (nc := nc) (i := i) (by omega) hnc
      obtain ⟨M2, cc, Lx, e2, H2, hx, b2⟩ := ih (i + 1) M1 (insS s) (L ++ [insX s]) cb (by omega) (by simp; omega) H1
      refine ⟨M2, cc, Lx, e1.trans e2, H2, fun e => ?_, b1.trans b2 (fun _ _ e => e)⟩
      rw [codeS]
      have := hx e
      rw [List.append_assoc] at this; exact this
    · have hE := p18_1_eq C prog.meth v.1 v.2.1 v.2.2 res (some (ro, 0)) (nt : Int) (nc : Int) mo (i : Int) M
      obtain ⟨l0, l1, l2⟩ := H.r.rd
      have q : (i : Int) < (nc : Int) := by omega
      have q0 : (s.2 == 0) = false := by simp [h0]
      simp only [int?_int, rvs, Int.reduceBEq, Int.reduceBNe, Int.cast_ofNat_Int, Nat.zero_add, q, l2, q0] at hE
      refine ⟨M, ca, L, hE, by rw [code_bad _ h0]; exact H, fun e => ?_, Mem.But.refl _ _⟩
      rw [code_bad _ h0] at e
      exact absurd e h0
end
end Go.Proofs.Ytmkncifbammfjaa.M
namespace Go.Proofs.Ytmkncifbammfjaa.M
open Go.Abs
section
variable {M M' : Mem} {ro mo : Nat} {v ca ta : SlV} {xs : List Int} {s : Rs} {L : List Ins} {tvs : List SlV} {Ts : List (List Pr)}
theorem tabR_step (H : Mb M ro v xs mo s ca ta L tvs Ts) (h0 : s.2 = 0) (hl : tvs.length ≤ 100000) {res nt i : Nat} (hi : i < nt) (hnc : nt ≤ 100000) : ∃ (M' : Mem) (tb : SlV) (w : SlV), p18_3 C prog.meth v.1 v.2.1 v.2.2 res (some (ro, 0)) (nt : Int) mo (i : Int) M = p18_3 C prog.meth v.1 v.2.1 v.2.2 res (some (ro, 0)) (nt : Int) mo ((i + 1 : Nat) : Int) M' ∧
    Mb M' ro v xs mo (tabS s).2 ca tb L (tvs ++ [w]) (Ts ++ [(tabS s).1]) ∧ Mem.But (fun o => o = ro ∨ mo ≤ o) M M' := by
  have hE := p18_3_eq C prog.meth v.1 v.2.1 v.2.2 res (some (ro, 0)) (nt : Int) mo (i : Int) M
  have hF := p18_5_eq C prog.meth v.1 v.2.1 v.2.2 res (some (ro, 0)) (nt : Int) mo (i : Int) M
  obtain ⟨o1, o3⟩ := H.ord
  obtain ⟨l0, l1, l2⟩ := H.r.rd
  have q : (i : Int) < (nt : Int) := by omega
  have q0 : (s.2 == 0) = true := by simp [h0]
  have w : IntKind.wrap .i64 ((i : Int) + 1) = ((i + 1 : Nat) : Int) := by rw [wrap_i64 (by omega) (by omega)]; rfl
  simp only [int?_int, rvs, Int.reduceBEq, Int.reduceBNe, Int.cast_ofNat_Int, Nat.zero_add, q, l2, q0] at hE
  obtain ⟨p1, p2⟩ := H.rd
  obtain ⟨M1, rb, c1, r1, l1', b1, f1⟩ := pairsR_C H.r
  have hm := Mem.get_lt H.gm
  have hn1 := b1.1
  have gm1 := (b1.2 mo hm (by omega)).trans H.gm
  have hlt := H.lt.length
  have lt1 := H.lt.same (fun o ho => b1.2 o (H.ft o ho).2.1 (by have := H.ft o ho; omega))
  obtain ⟨M3, q1, q2, q3, q4, q5⟩ := lt1.push (bytes := 24) (y := rb) (cs := [.sl rb.1 rb.2.1 rb.2.2]) encS1 (by omega) rfl (by omega)
  have gm3 := (q4.2 mo (by omega) (fun e => by have := H.ft mo e; omega)).trans gm1
  obtain ⟨M4, s4, g4, n4, b4⟩ := st_at (i := 1) (vs := [.sl (some (M1.n + 1, 0)) (ta.2.1 + 1) (.unk 0)]) gm3 (by simp)
  simp only [overL] at g4
  have t1 : M1.still mo 1 [.sl ta.1 ta.2.1 ta.2.2] = true := still1 (by rw [ld_fix gm1]; rfl)
  have t2 : (M1.alloc ⟨[.sl rb.1 rb.2.1 rb.2.2], .fixed⟩).still mo 1 [.sl ta.1 ta.2.1 ta.2.2] = true := still1 (by rw [ld_alloc _ (Mem.get_lt gm1), ld_fix gm1]; rfl)
  simp only [int?_int, rvs, Int.reduceBEq, Int.reduceBNe, Int.cast_ofNat_Int, p2, c1] at hF
  rw [q1] at hF
  simp only [int?_int, rvs, Int.reduceBEq, Int.reduceBNe, Int.cast_ofNat_Int, s4, t1, t2, w] at hF
  have f3 : ∀ o, mo < o → o < M1.n → o ∉ fpOf ta.1 → M4.get o = M1.get o := fun o h1 h2 h3 => by rw [b4.2 o (by omega) (by omega), q4.2 o h2 h3]
  have f4 : ∀ o, o < mo → M4.get o = M1.get o := fun o h1 => by rw [b4.2 o (by omega) (by omega), q4.2 o (by omega) (fun e => by have := H.ft o e; omega)]
  have f5 : ∀ o, mo < o → o < M.n → o ∉ fpOf ta.1 → M4.get o = M.get o := fun o h1 h2 h3 => by rw [f3 o h1 (by omega) h3, b1.2 o h2 (by omega)]
  refine ⟨M4, (some (M1.n + 1, 0), ta.2.1 + 1, .unk 0), rb, hE.trans hF, ⟨r1.same (f4 ro (by omega)) (fun o ho => f4 o (by have := o3 o ho; omega)), g4, H.lc.same (fun o ho => ?_), q2.same (fun o ho => ?_), fun e => Tbs.snoc ((H.tv h0).same (fun w hw o ho => ?_)) ((l1' e).sl.same (fun p hp => ?_)), fun o ho => ?_, fun o ho => ?_, fun w hw o ho => ?_, H.ord⟩, ⟨by omega, fun o ho hne => ?_⟩⟩
  · have := H.fc o ho
    exact f5 o this.1 this.2 (fun e => (H.ft o e).2.2 ho)
  · simp only [fpOf, List.mem_singleton] at ho
    exact b4.2 o (by omega) (by omega)
  · have := H.fv w hw o ho; exact f5 o this.1 this.2.1 this.2.2.1
  · have := f1 p.1 (by rw [hp]; simp [fpOf])
    exact f3 p.1 (by omega) this.2 (fun e => by have := H.ft p.1 e; omega)
  · have := H.fc o ho; omega
  · simp only [fpOf, List.mem_singleton] at ho
    exact ⟨by omega, by omega, fun e => by have := H.fc o e; omega⟩
  · rcases List.mem_append.1 hw with hw | hw
    · have := H.fv w hw o ho; exact ⟨this.1, by omega, by simp only [fpOf, List.mem_singleton]; omega, this.2.2.2⟩
    · simp only [List.mem_singleton] at hw
      subst hw
      have := f1 o ho
      exact ⟨by omega, by omega, by simp only [fpOf, List.mem_singleton]; omega, fun e => by have := H.fc o e; omega⟩
  · have h1 : o ≠ ro := fun e => hne (.inl e)
    have h2 : o < mo := by
      by_cases h2 : o < mo
      · exact h2
      · exact absurd (.inr (by omega)) hne
    rw [f4 o (by omega), b1.2 o ho h1]
theorem tabR_loop {res nt : Nat} (hnc : nt ≤ 100000) : ∀ (d i : Nat) (M : Mem) (s : Rs) (Ts : List (List Pr)) (tvs : List SlV) (ta : SlV), i + d = nt → tvs.length ≤ i → Mb M ro v xs mo s ca ta L tvs Ts →
    ∃ (M' : Mem) (tb : SlV) (tws : List SlV) (Tx : List (List Pr)), p18_3 C prog.meth v.1 v.2.1 v.2.2 res (some (ro, 0)) (nt : Int) mo (i : Int) M = (if (tabsS d s).2.2 = 0 then p18_6 C prog.meth v.1 v.2.1 v.2.2 res (some (ro, 0)) mo M' else p18_7 C prog.meth v.1 v.2.1 v.2.2 res (some (ro, 0)) mo M') ∧
      Mb M' ro v xs mo (tabsS d s).2 ca tb L tws Tx ∧ ((tabsS d s).2.2 = 0 → Tx = Ts ++ (tabsS d s).1) ∧ Mem.But (fun o => o = ro ∨ mo ≤ o) M M' := by
  intro d
  induction d with
  | zero =>
    intro i M s Ts tvs ta hi hl H
    have hE := p18_3_eq C prog.meth v.1 v.2.1 v.2.2 res (some (ro, 0)) (nt : Int) mo (i : Int) M
    obtain ⟨l0, l1, l2⟩ := H.r.rd
    have q : ¬ ((i : Int) < (nt : Int)) := by omega
    simp only [int?_int, rvs, Int.reduceBEq, Int.reduceBNe, Int.cast_ofNat_Int, Nat.zero_add, q, l2] at hE
    refine ⟨M, ta, tvs, Ts, ?_, H, fun _ => by rw [tabsS, List.append_nil], Mem.But.refl _ _⟩
    rw [tabsS]
    simp only
    by_cases h0 : s.2 = 0
    · rw [if_pos h0]
      have q0 : (s.2 == 0) = true := by simp [h0]
      simp only [int?_int, rvs, Int.reduceBEq, Int.reduceBNe, Int.cast_ofNat_Int, q0] at hE
      exact hE
    · rw [if_neg h0]
      have q0 : (s.2 == 0) = false := by simp [h0]
      simp only [int?_int, rvs, Int.reduceBEq, Int.reduceBNe, Int.cast_ofNat_Int, q0] at hE
      exact hE
  | succ d ih =>
    intro i M s Ts tvs ta hi hl H
    by_cases h0 : s.2 = 0
    · obtain ⟨M1, tb, w, e1, H1, b1⟩ := tabR_step H h0 (by omega) (res := res) (nt := nt) (i := i) (by omega) hnc
      obtain ⟨M2, tc, tws, Tx, e2, H2, hx, b2⟩ := ih (i + 1) M1 (tabS s).2 (Ts ++ [(tabS s).1]) (tvs ++ [w]) tb (by omega) (by simp; omega) H1
      rw [tabsS]
      simp only
      refine ⟨M2, tc, tws, Tx, e1.trans e2, H2, fun e => ?_, b1.trans b2 (fun _ _ e => e)⟩
      have := hx e
      rw [List.append_assoc] at this; exact this
    · have hE := p18_3_eq C prog.meth v.1 v.2.1 v.2.2 res (some (ro, 0)) (nt : Int) mo (i : Int) M
      obtain ⟨l0, l1, l2⟩ := H.r.rd
      have q : (i : Int) < (nt : Int) := by omega
      have q0 : (s.2 == 0) = false := by simp [h0]
      simp only [int?_int, rvs, Int.reduceBEq, Int.reduceBNe, Int.cast_ofNat_Int, Nat.zero_add, q, l2, q0] at hE
      rw [tabs_bad _ h0]
      exact ⟨M, ta, tvs, Ts, by rw [if_neg h0]; exact hE, H, fun e => absurd e h0, Mem.But.refl _ _⟩
theorem sumR_step (H : Mb M ro v xs mo s ca ta L tvs Ts) (h0 : s.2 = 0) (hx : 0 < xs.length) {res : Nat} : ∃ M', p18_6 C prog.meth v.1 v.2.1 v.2.2 res (some (ro, 0)) mo M = p18_7 C prog.meth v.1 v.2.1 v.2.2 res (some (ro, 0)) mo M' ∧
    Mb M' ro v xs mo (rdS 2 (okF (fieldA (xs.take (xs.length - s.1.length)))) s) ca ta L tvs Ts ∧ Mem.But (fun o => o = ro ∨ mo ≤ o) M M' := by
  have hE := p18_6_eq C prog.meth v.1 v.2.1 v.2.2 res (some (ro, 0)) mo M
  obtain ⟨l0, l1, l2⟩ := H.r.rd
  obtain ⟨le1, le2⟩ := H.r.lens
  have hlim := H.r.lim
  obtain ⟨u, cut, us, ul, _⟩ := H.r.src.to (k2 := .i64) (j := xs.length - s.1.length) (by omega) (by omega)
  have cF := RField_C us.ints (H.r.byt.take _) (by omega)
  simp only [int?_int, rvs, Int.reduceBEq, Int.reduceBNe, Int.cast_ofNat_Int, Nat.zero_add, l1] at hE
  rw [cut M (Mem.Upto.refl M), cF] at hE
  simp only [int?_int, rvs, Int.reduceBEq, Int.reduceBNe, Int.cast_ofNat_Int] at hE
  obtain ⟨M1, c1, r1, b1, n1⟩ := next_C (size := 2) H.r (by omega) (by omega)
  have c1 : C 36 [.ptr (some (ro, 0)), .int .i64 2] M = _ := c1
  rw [c1, Option.bind_some] at hE
  have hF := fieldA_lt (xs.take (xs.length - s.1.length))
  obtain ⟨f, hf⟩ : ∃ f, fieldA (xs.take (xs.length - s.1.length)) = f := ⟨_, rfl⟩
  rw [hf] at hE hF ⊢
  have w1 : IntKind.wrap .u64 (f : Int) = (f : Int) := by rw [wu64]; omega
  by_cases hb : nxB 2 s = true
  · by_cases hk : numB (rdB 2 s) = f
    · have q1 : ((numB (rdB 2 s) : Int) != (f : Int)) = false := by simp [hk]
      simp only [int?_int, rvs, Int.reduceBEq, Int.reduceBNe, Int.cast_ofNat_Int, hb, w1, q1] at hE
      have := nx_right (size := 2) (s := s) (ok := okF f) (fun _ => by unfold okF; rw [if_pos hk])
      rw [this] at r1
      exact ⟨M1, hE, H.read r1 b1 h0, b1.mono (fun o e => .inl e)⟩
    · have q1 : ((numB (rdB 2 s) : Int) != (f : Int)) = true := by simp only [bne_iff_ne, ne_eq]; omega
      have okN : okF f (rdB 2 s) = 110 := by unfold okF; rw [if_neg hk]
      obtain ⟨M2, c2, r2, b2, n2⟩ := nx_wrong (size := 2) (ok := okF f) r1 H.r.tail hb (by rw [okN]; decide)
      rw [okN] at c2
      have c2 : C 38 [.ptr (some (ro, 0)), .int .i64 2, .int .i64 110] M1 = _ := c2
      simp only [int?_int, rvs, Int.reduceBEq, Int.reduceBNe, Int.cast_ofNat_Int, hb, w1, q1, c2] at hE
      have b := b1.trans b2 (fun _ _ e => e)
      exact ⟨M2, hE, H.read r2 b h0, b.mono (fun o e => .inl e)⟩
  · have hb' : nxB 2 s = false := by simpa using hb
    simp only [int?_int, rvs, Int.reduceBEq, Int.reduceBNe, Int.cast_ofNat_Int, hb'] at hE
    have := nx_right (size := 2) (s := s) (ok := okF f) (fun e => absurd e hb)
    rw [this] at r1
    exact ⟨M1, hE, H.read r1 b1 h0, b1.mono (fun o e => .inl e)⟩
theorem Mb.new {n : Nat} (H : Mb M ro v xs mo s ca ta L tvs Ts) (h0 : s.2 = 0) (hn : n ≤ mo) : NewMd n M ca ta L Ts := fun M2 hg =>
  ⟨H.lc.sl.same (fun p hp => by have := H.fc p.1 (by rw [hp]; simp [fpOf]); exact hg p.1 (by omega) this.2), tvs, H.lt.sl.same (fun p hp => by have := H.ft p.1 (by rw [hp]; simp [fpOf]); exact hg p.1 (by omega) this.2.1), (H.tv h0).same (fun w hw o ho => by have := H.fv w hw o ho; exact hg o (by omega) this.2.1)⟩
theorem end_out {res : Nat} (H : Mb M ro v xs mo s ca ta L tvs Ts) (hr : M.get res = some ⟨[.sl none 0 (.known 0), .sl none 0 (.known 0)], .fixed⟩) (hres : res < ro) : ∃ (M' : Mem) (cb tb : SlV), p18_8 C prog.meth res (some (ro, 0)) mo M = some (.tup [.agg [.sl cb.1 cb.2.1 cb.2.2, .sl tb.1 tb.2.1 tb.2.2], .int .i64 (if s.2 = 0 then 0 else ((xs.length - s.1.length : Nat) : Int)), .int .i64 s.2], M') ∧
    Mem.But (· = res) M M' ∧ M'.n = M.n ∧ NewMd (res + 1) M' cb tb (if s.2 = 0 then L else []) (if s.2 = 0 then Ts else []) := by
  have hE := p18_8_eq C prog.meth res (some (ro, 0)) mo M
  obtain ⟨l0, l1, l2⟩ := H.r.rd
  obtain ⟨o1, o3⟩ := H.ord
  by_cases h0 : s.2 = 0
  · have q : (s.2 != 0) = false := by simp [h0]
    obtain ⟨p1, p2⟩ := H.rd
    obtain ⟨M1, s1, g1, n1, b1⟩ := st_at (i := 0) (vs := [.sl ca.1 ca.2.1 ca.2.2, .sl ta.1 ta.2.1 ta.2.2]) hr (by simp)
    simp only [overL] at g1
    have k0 : M1.ldL res 0 = some ca := by rw [ldL_at g1]; rfl
    have k1 : M1.ldL res 1 = some ta := by rw [ldL_at g1]; rfl
    simp only [int?_int, rvs, Int.reduceBEq, Int.reduceBNe, Int.cast_ofNat_Int, Nat.zero_add, l2, q, p1, p2, s1, k0, k1] at hE
    rw [if_pos h0, if_pos h0, if_pos h0, h0]
    exact ⟨M1, ca, ta, hE, b1, n1, fun M2 hg => H.new h0 (n := res + 1) (by omega) M2 (fun o h1 h2 => by rw [hg o h1 (by omega), b1.2 o h2 (by omega)])⟩
  · have q : (s.2 != 0) = true := by simp [h0]
    obtain ⟨M1, s1, g1, n1, b1⟩ := st_at (i := 0) (vs := [.sl none 0 (.known 0), .sl none 0 (.known 0)]) hr (by simp)
    simp only [overL] at g1
    have k0 : M1.ldL res 0 = some (none, 0, .known 0) := by rw [ldL_at g1]; rfl
    have k1 : M1.ldL res 1 = some (none, 0, .known 0) := by rw [ldL_at g1]; rfl
    have g' := (b1.2 ro (Mem.get_lt H.r.g) (by omega)).trans H.r.g
    have t1 : M1.still ro 1 [.int .i64 ((xs.length - s.1.length : Nat) : Int)] = true := still1 (by rw [ld_fix g']; rfl)
    have t2 : M1.still ro 2 [.int .i64 s.2] = true := still1 (by rw [ld_fix g']; rfl)
    simp only [int?_int, rvs, Int.reduceBEq, Int.reduceBNe, Int.cast_ofNat_Int, Nat.zero_add, l1, l2, q, s1, t1, t2, k0, k1] at hE
    rw [if_neg h0, if_neg h0, if_neg h0]
    exact ⟨M1, (none, 0, .known 0), (none, 0, .known 0), hE, b1, n1, fun M2 _ => Md.nil M2⟩
theorem endR_step (H : Mb M ro v xs mo s ca ta L tvs Ts) {res : Nat} : ∃ M', p18_7 C prog.meth v.1 v.2.1 v.2.2 res (some (ro, 0)) mo M = p18_8 C prog.meth res (some (ro, 0)) mo M' ∧ Mb M' ro v xs mo (endS s) ca ta L tvs Ts ∧ Mem.But (fun o => o = ro ∨ mo ≤ o) M M' := by
  have hE := p18_7_eq C prog.meth v.1 v.2.1 v.2.2 res (some (ro, 0)) mo M
  obtain ⟨l0, l1, l2⟩ := H.r.rd
  obtain ⟨le1, le2⟩ := H.r.lens
  by_cases h0 : s.2 = 0
  · have q : (s.2 == 0) = true := by simp [h0]
    by_cases h1 : s.1 = []
    · have q1 : ¬ (((xs.length - s.1.length : Nat) : Int) < (v.2.1 : Int)) := by rw [h1]; simp only [List.length_nil]; omega
      simp only [int?_int, rvs, Int.reduceBEq, Int.reduceBNe, Int.cast_ofNat_Int, Nat.zero_add, l1, l2, q, q1] at hE
      have : endS s = s := by unfold endS; rw [if_neg (fun e => e.2 h1)]
      rw [this]
      exact ⟨M, hE, H, Mem.But.refl _ _⟩
    · have hpos : 0 < s.1.length := List.length_pos_iff.2 h1
      have q1 : ((xs.length - s.1.length : Nat) : Int) < (v.2.1 : Int) := by omega
      obtain ⟨M1, s1, g1, n1, b1⟩ := st_at (i := 2) (vs := [.int .i64 200]) H.r.g (by simp)
      simp only [overL] at g1
      simp only [int?_int, rvs, Int.reduceBEq, Int.reduceBNe, Int.cast_ofNat_Int, Nat.zero_add, l1, l2, q, q1, s1] at hE
      have : endS s = (s.1, 200) := by unfold endS; rw [if_pos ⟨h0, h1⟩]
      rw [this]
      exact ⟨M1, hE, H.read (H.r.put (s.1, 200) H.r.tail g1 b1) b1 h0, b1.mono (fun o e => .inl e)⟩
  · have q : (s.2 == 0) = false := by simp [h0]
    simp only [int?_int, rvs, Int.reduceBEq, Int.reduceBNe, Int.cast_ofNat_Int, Nat.zero_add, l2, q] at hE
    have : endS s = s := by unfold endS; rw [if_neg (fun e => h0 e.1)]
    rw [this]
    exact ⟨M, hE, H, Mem.But.refl _ _⟩
theorem unp_nil : (unpT []).2.2 = 6 := by decide +kernel
theorem RUnpack_C (h : Src M v xs) (hb : Byt xs) (hl : xs.length ≤ 140737488351232) : ∃ (M' : Mem) (ca ta : SlV), C 18 [.sl v.1 v.2.1 v.2.2] M = some (.tup [.agg [.sl ca.1 ca.2.1 ca.2.2, .sl ta.1 ta.2.1 ta.2.2], .int .i64 (upA xs), .int .i64 (upE xs)], M') ∧ M.Upto M' ∧ NewMd M.n M' ca ta (upC xs) (upT xs) := by
  have hE := p18_0_eq C prog.meth v.1 v.2.1 v.2.2 M
  obtain ⟨M1, e1, g1, u1, n1⟩ := alloc_at M ⟨[.sl none 0 (.known 0), .sl none 0 (.known 0)], .fixed⟩
  simp only [e1] at hE
  obtain ⟨M2, e2, g2, u2, n2⟩ := alloc_at M1 ⟨[.sl v.1 v.2.1 v.2.2, .int .i64 0, .int .i64 0], .fixed⟩
  simp only [e2] at hE
  have r0 : Rdr M2 M1.n v xs (xs, 0) := ⟨by rw [g2]; simp only [Nat.sub_self]; rfl, ⟨[], rfl⟩, (h.upto u1).upto u2, fun e => by have := h.lt _ e; omega, hb, hl⟩
  obtain ⟨M3, nt, nc, c3, r3, b3, hN⟩ := head_C r0
  rw [c3, Option.bind_some] at hE
  simp only [int?_int, rvs, Int.reduceBEq, Int.reduceBNe, Int.cast_ofNat_Int] at hE
  obtain ⟨M4, e4, g4, u4, n4⟩ := alloc_at M3 ⟨[.sl none 0 (.known 0), .sl none 0 (.known 0)], .fixed⟩
  simp only [e4] at hE
  have hb3 := b3.1
  have r4 := r3.upto u4
  have hv : ∀ o ∈ fpS v, o < M3.n := fun o ho => by have := h.lt o ho; omega
  have H0 : Mb M4 M1.n v xs M3.n (unpH xs) (none, 0, .known 0) (none, 0, .known 0) [] [] [] := ⟨r4, g4, Row.nil _ _ _, Row.nil _ _ _, fun _ => Tbs.nil _, fun o ho => by simp [fpOf] at ho, fun o ho => by simp [fpOf] at ho, fun w hw => by simp at hw, by omega, hv⟩
  have sC : ∃ (M5 : Mem) (cb : SlV) (Lx : List Ins), p18_1 C prog.meth v.1 v.2.1 v.2.2 M.n (some (M1.n, 0)) (nt : Int) (nc : Int) M3.n 0 M4 = p18_3 C prog.meth v.1 v.2.1 v.2.2 M.n (some (M1.n, 0)) (nt : Int) M3.n 0 M5 ∧ Mb M5 M1.n v xs M3.n (unpC xs).2 cb (none, 0, .known 0) Lx [] [] ∧ ((unpC xs).2.2 = 0 → Lx = (unpC xs).1) ∧ Mem.But (fun o => o = M1.n ∨ M3.n ≤ o) M4 M5 := by
    by_cases hz : (unpH xs).2 = 0
    · obtain ⟨hnt, hnc⟩ := hN hz
      have hNC : unpNC xs ≤ 256 := cntN_le
      obtain ⟨M5, cb, Lx, q1, q2, q3, q4⟩ := codeR_loop (res := M.n) (nt := nt) (nc := nc) (by omega) nc 0 M4 (unpH xs) [] (none, 0, .known 0) (by omega) (by simp) H0
      rw [hnc] at q1 q2 q3
      rw [hnc]
      exact ⟨M5, cb, Lx, q1, q2, fun e => by have := q3 e; rw [List.nil_append] at this; exact this, q4⟩
    · have e5 : (unpC xs).2 = unpH xs := code_bad _ hz
      have hF := p18_1_eq C prog.meth v.1 v.2.1 v.2.2 M.n (some (M1.n, 0)) (nt : Int) (nc : Int) M3.n 0 M4
      obtain ⟨l0, l1, l2⟩ := r4.rd
      have q0 : ((unpH xs).2 == 0) = false := by simp [hz]
      have hF' : p18_1 C prog.meth v.1 v.2.1 v.2.2 M.n (some (M1.n, 0)) (nt : Int) (nc : Int) M3.n 0 M4 = p18_3 C prog.meth v.1 v.2.1 v.2.2 M.n (some (M1.n, 0)) (nt : Int) M3.n 0 M4 := by
        by_cases q : (0 : Int) < (nc : Int)
        · simp only [int?_int, rvs, Int.reduceBEq, Int.reduceBNe, Int.cast_ofNat_Int, Nat.zero_add, q, l2, q0] at hF; exact hF
        · simp only [int?_int, rvs, Int.reduceBEq, Int.reduceBNe, Int.cast_ofNat_Int, Nat.zero_add, q, l2, q0] at hF; exact hF
      rw [e5]
      exact ⟨M4, (none, 0, .known 0), [], hF', H0, fun e => absurd e hz, Mem.But.refl _ _⟩
  obtain ⟨M5, cb, Lx, e5, H5, hLx, b5⟩ := sC
  have hb5 := b5.1
  have sT : ∃ (M6 : Mem) (tb : SlV) (tws : List SlV) (Tx : List (List Pr)), p18_3 C prog.meth v.1 v.2.1 v.2.2 M.n (some (M1.n, 0)) (nt : Int) M3.n 0 M5 = (if (unpT xs).2.2 = 0 then p18_6 C prog.meth v.1 v.2.1 v.2.2 M.n (some (M1.n, 0)) M3.n M6 else p18_7 C prog.meth v.1 v.2.1 v.2.2 M.n (some (M1.n, 0)) M3.n M6) ∧ Mb M6 M1.n v xs M3.n (unpT xs).2 cb tb Lx tws Tx ∧ ((unpT xs).2.2 = 0 → Tx = (unpT xs).1) ∧ Mem.But (fun o => o = M1.n ∨ M3.n ≤ o) M5 M6 := by
    by_cases hz : (unpC xs).2.2 = 0
    · have hzH : (unpH xs).2 = 0 := by
        by_cases e : (unpH xs).2 = 0
        · exact e
        · have : (unpC xs).2 = unpH xs := code_bad _ e
          rw [this] at hz; exact hz
      obtain ⟨hnt, hnc⟩ := hN hzH
      have hNT : unpNT xs ≤ 4 := cntN_le
      obtain ⟨M6, tb, tws, Tx, q1, q2, q3, q4⟩ := tabR_loop (res := M.n) (nt := nt) (by omega) nt 0 M5 (unpC xs).2 [] [] (none, 0, .known 0) (by omega) (by simp) H5
      rw [hnt] at q1 q2 q3
      rw [hnt]
      exact ⟨M6, tb, tws, Tx, q1, q2, fun e => by have := q3 e; rw [List.nil_append] at this; exact this, q4⟩
    · have e6 : (unpT xs).2 = (unpC xs).2 := tabs_bad _ hz
      have hF := p18_3_eq C prog.meth v.1 v.2.1 v.2.2 M.n (some (M1.n, 0)) (nt : Int) M3.n 0 M5
      obtain ⟨l0, l1, l2⟩ := H5.r.rd
      have q0 : ((unpC xs).2.2 == 0) = false := by simp [hz]
      rw [e6]
      have hF' : p18_3 C prog.meth v.1 v.2.1 v.2.2 M.n (some (M1.n, 0)) (nt : Int) M3.n 0 M5 = p18_7 C prog.meth v.1 v.2.1 v.2.2 M.n (some (M1.n, 0)) M3.n M5 := by
        by_cases q : (0 : Int) < (nt : Int)
        · simp only [int?_int, rvs, Int.reduceBEq, Int.reduceBNe, Int.cast_ofNat_Int, Nat.zero_add, q, l2, q0] at hF; exact hF
        · simp only [int?_int, rvs, Int.reduceBEq, Int.reduceBNe, Int.cast_ofNat_Int, Nat.zero_add, q, l2, q0] at hF; exact hF
      exact ⟨M5, (none, 0, .known 0), [], [], by rw [if_neg hz]; exact hF', H5, fun e => absurd e hz, Mem.But.refl _ _⟩
  obtain ⟨M6, tb, tws, Tx, e6, H6, hTx, b6⟩ := sT
  have hb6 := b6.1
  have sF : ∃ M7, p18_3 C prog.meth v.1 v.2.1 v.2.2 M.n (some (M1.n, 0)) (nt : Int) M3.n 0 M5 = p18_7 C prog.meth v.1 v.2.1 v.2.2 M.n (some (M1.n, 0)) M3.n M7 ∧ Mb M7 M1.n v xs M3.n (unpF xs) cb tb Lx tws Tx ∧ Mem.But (fun o => o = M1.n ∨ M3.n ≤ o) M6 M7 := by
    by_cases hz : (unpT xs).2.2 = 0
    · rw [if_pos hz] at e6
      have hx : 0 < xs.length := by
        cases xs with
        | nil => rw [unp_nil] at hz; simp at hz
        | cons x xs => simp
      obtain ⟨M7, q1, q2, q3⟩ := sumR_step H6 hz hx (res := M.n)
      exact ⟨M7, e6.trans q1, q2, q3⟩
    · rw [if_neg hz] at e6
      have e7 : unpF xs = (unpT xs).2 := rdS_bad hz
      rw [e7]
      exact ⟨M6, e6, H6, Mem.But.refl _ _⟩
  obtain ⟨M7, e7, H7, b7⟩ := sF
  have hb7 := b7.1
  obtain ⟨M8, e8, H8, b8⟩ := endR_step H7 (res := M.n)
  have hb8 := b8.1
  have g8 : M8.get M.n = some ⟨[.sl none 0 (.known 0), .sl none 0 (.known 0)], .fixed⟩ := by
    rw [b8.2 _ (by omega) (by omega), b7.2 _ (by omega) (by omega), b6.2 _ (by omega) (by omega), b5.2 _ (by omega) (by omega), u4.2 _ (by omega), b3.2 _ (by omega) (by omega), u2.2 _ (by omega)]; exact g1
  obtain ⟨M9, cc, tc, e9, b9, n9, h9⟩ := end_out H8 g8 (by omega)
  have chain := hE.trans (e5.trans (e7.trans (e8.trans e9)))
  refine ⟨M9, cc, tc, c18 chain, ⟨by omega, fun o ho => ?_⟩, ?_⟩
  · rw [b9.2 o (by omega) (by omega), b8.2 o (by omega) (by omega), b7.2 o (by omega) (by omega), b6.2 o (by omega) (by omega), b5.2 o (by omega) (by omega), u4.2 o (by omega), b3.2 o (by omega) (by omega), u2.2 o (by omega), u1.2 o ho]
  · have eE : (endS (unpF xs)).2 = upE xs := rfl
    rw [eE] at h9
    unfold upC upT
    by_cases hz : upE xs = 0
    · rw [if_pos hz, if_pos hz] at h9
      rw [if_pos hz, if_pos hz]
      have hF0 : (unpF xs).2 = 0 := by
        have hz' : (endS (unpF xs)).2 = 0 := hz
        unfold endS at hz'
        split at hz'
        · rename_i hh; exact hh.1
        · exact hz'
      have hT0 : (unpT xs).2.2 = 0 := by
        unfold unpF at hF0
        exact (rdS_inv hF0).1
      have hC0 : (unpC xs).2.2 = 0 := by
        by_cases e : (unpC xs).2.2 = 0
        · exact e
        · have : (unpT xs).2 = (unpC xs).2 := tabs_bad _ e
          rw [this] at hT0; exact hT0
      rw [hLx hC0, hTx hT0] at h9
      exact fun M2 hg => h9 M2 (fun o h1 h2 => hg o (by omega) h2)
    · rw [if_neg hz, if_neg hz] at h9
      rw [if_neg hz, if_neg hz]
      exact fun M2 hg => h9 M2 (fun o h1 h2 => hg o (by omega) h2)
end
end Go.Proofs.Ytmkncifbammfjaa.M
namespace Go.Proofs.Ytmkncifbammfjaa.M
open Go.Abs
section
variable {M M0 M' : Mem} {ca ta w : SlV} {code : List Ins} {tabs : List (List Pr)} {ys : List Int}
theorem ins_ld {a : Option (Nat × Nat)} {l : Nat} {c : Cap} (h : Sl M 5 encI a l c code) {i : Nat} (hi : i < l) : ∃ p x, slPtr a c = some p ∧ code[i]? = some x ∧ M.ldI .u8 p.1 (p.2 + i * 5) = some (x.1 : Int) ∧ M.ldI .u8 p.1 (p.2 + i * 5 + 1) = some x.2.1 ∧ M.ldI .u8 p.1 (p.2 + i * 5 + 1 + 1) = some x.2.2.1 ∧ M.ldI .i16 p.1 (p.2 + i * 5 + 1 + 1 + 1) = some x.2.2.2.1 ∧ M.ldI .i32 p.1 (p.2 + i * 5 + 1 + 1 + 1 + 1) = some x.2.2.2.2 := by
  obtain ⟨p, h1, h2⟩ := h.get encI5 (by omega) hi
  have hl := h.2
  refine ⟨p, code[i]'(by omega), h1, List.getElem?_eq_getElem (by omega), ?_, ?_, ?_, ?_, ?_⟩
  · exact ldI_ld.2 (h2 0 (by omega))
  · rw [Nat.add_assoc]; exact ldI_ld.2 (h2 1 (by omega))
  · rw [Nat.add_assoc, Nat.add_assoc]; exact ldI_ld.2 (h2 2 (by omega))
  · rw [Nat.add_assoc, Nat.add_assoc, Nat.add_assoc]; exact ldI_ld.2 (h2 3 (by omega))
  · rw [Nat.add_assoc, Nat.add_assoc, Nat.add_assoc, Nat.add_assoc]; exact ldI_ld.2 (h2 4 (by omega))
theorem tv_ld {a : Option (Nat × Nat)} {l : Nat} {c : Cap} {tvs : List SlV} (h : Sl M 1 encS a l c tvs) {i : Nat} (hi : i < l) : ∃ p x, slPtr a c = some p ∧ tvs[i]? = some x ∧ M.ldL p.1 (p.2 + i) = some x := by
  obtain ⟨p, h1, h2⟩ := h.get encS1 (by omega) hi
  have hl := h.2
  refine ⟨p, tvs[i]'(by omega), h1, List.getElem?_eq_getElem (by omega), ?_⟩
  have h3 := h2 0 (by omega)
  rw [Nat.mul_one, Nat.add_zero] at h3
  unfold Mem.ldL
  rw [h3]; rfl
theorem chkI_drop {i : Nat} {x : Ins} (h : code[i]? = some x) : chkI (code.drop i) = if okA x then chkI (code.drop (i + 1)) else 130 := by
  obtain ⟨h1, h2⟩ := List.getElem?_eq_some_iff.1 h
  rw [List.drop_eq_getElem_cons h1, chkI, h2]
theorem chkT_drop {i : Nat} {x : List Pr} (h : tabs[i]? = some x) : chkT (tabs.drop i) = if chk x = 0 then chkT (tabs.drop (i + 1)) else chk x := by
  obtain ⟨h1, h2⟩ := List.getElem?_eq_some_iff.1 h
  rw [List.drop_eq_getElem_cons h1, chkT, h2]
theorem check_tabs {a : Option (Nat × Nat)} {l : Nat} {c : Cap} {tvs : List SlV} (h : Sl M 1 encS a l c tvs) (ht : Tbs M tvs tabs) (hl : l < 2 ^ 60) : ∀ (d i : Nat), i + d = l → p11_3 C prog.meth a l c (l : Int) (i : Int) M = some (.int .i64 (chkT (tabs.drop i)), M) := by
  intro d
  have hlen := h.2
  induction d with
  | zero =>
    intro i hi
    have hF := p11_3_eq C prog.meth a l c (l : Int) (i : Int) M
    have q : ¬ ((i : Int) < (l : Int)) := by omega
    simp only [int?_int, rvs, Int.reduceBEq, Int.reduceBNe, Int.cast_ofNat_Int, q] at hF
    rw [List.drop_eq_nil_of_le (by have := ht.1; omega)]
    exact hF
  | succ d ih =>
    intro i hi
    have hF := p11_3_eq C prog.meth a l c (l : Int) (i : Int) M
    have q : ((i : Int) < (l : Int)) := by omega
    have k0 : (0 : Int) ≤ (i : Int) := by omega
    have k1 : Nat.blt i l = true := Mem.blt_iff.2 (by omega)
    have w1 : IntKind.wrap .i64 ((i : Int) + 1) = ((i + 1 : Nat) : Int) := by rw [wrap_i64 (by omega) (by omega)]; rfl
    obtain ⟨p, x, hp, hx, hv⟩ := tv_ld h (i := i) (by omega)
    have hti : i < tabs.length := by have := ht.1; omega
    have hT := List.getElem?_eq_getElem hti
    have cT := TCheck_C (ht.2 i x _ hx hT)
    rw [chkT_drop hT]
    by_cases hz : chk tabs[i] = 0
    · have q2 : (chk tabs[i] != 0) = false := by simp [hz]
      simp only [int?_int, rvs, Int.reduceBEq, Int.reduceBNe, Int.cast_ofNat_Int, q, k0, k1, Int.toNat_natCast, hp, Nat.mul_one, hv, cT, q2, w1] at hF
      rw [if_pos hz, hF]
      exact ih (i + 1) (by omega)
    · have q2 : (chk tabs[i] != 0) = true := by simp [hz]
      simp only [int?_int, rvs, Int.reduceBEq, Int.reduceBNe, Int.cast_ofNat_Int, q, k0, k1, Int.toNat_natCast, hp, Nat.mul_one, hv, cT, q2, w1] at hF
      rw [if_neg hz]; exact hF
theorem ibox5 (M : Mem) (x : Ins) : ∃ M', (M.alloc ⟨[.int .u8 0, .int .u8 0, .int .u8 0, .int .i16 0, .int .i32 0], .fixed⟩).st M.n 0 [.int .u8 (x.1 : Int), .int .u8 x.2.1, .int .u8 x.2.2.1, .int .i16 x.2.2.2.1, .int .i32 x.2.2.2.2] = some M' ∧ M.Upto M' ∧ M'.n = M.n + 1 ∧
    M'.ldI .u8 M.n 0 = some (x.1 : Int) ∧ M'.ldI .u8 M.n 1 = some x.2.1 ∧ M'.ldI .u8 M.n 2 = some x.2.2.1 ∧ M'.ldI .i16 M.n 3 = some x.2.2.2.1 ∧ M'.ldI .i32 M.n 4 = some x.2.2.2.2 := by
  obtain ⟨M1, e1, g1, u1, n1⟩ := alloc_at M ⟨[.int .u8 0, .int .u8 0, .int .u8 0, .int .i16 0, .int .i32 0], .fixed⟩
  rw [e1]
  obtain ⟨M2, s2, g2, n2, b2⟩ := st_at (i := 0) (vs := [.int .u8 (x.1 : Int), .int .u8 x.2.1, .int .u8 x.2.2.1, .int .i16 x.2.2.2.1, .int .i32 x.2.2.2.2]) g1 (by simp)
  simp only [overL] at g2
  refine ⟨M2, s2, ⟨by omega, fun o ho => by rw [b2.2 o (by omega) (by omega), u1.2 o ho]⟩, by omega, ?_, ?_, ?_, ?_, ?_⟩
  · rw [ldI_at g2]; rfl
  · rw [ldI_at g2]; rfl
  · rw [ldI_at g2]; rfl
  · rw [ldI_at g2]; rfl
  · rw [ldI_at g2]; rfl
theorem check_code {mo : Nat} {a : Option (Nat × Nat)} {l : Nat} {c : Cap} {tvs : List SlV} (hc : Sl M0 5 encI a l c code) (hr : ∀ x ∈ code, InsR x) (hl : l < 2 ^ 60) (gm : M0.ldL mo 1 = some ta) (ht : Sl M0 1 encS ta.1 ta.2.1 ta.2.2 tvs) (hT : Tbs M0 tvs tabs) (htl : ta.2.1 < 2 ^ 60) :
    ∀ (d i : Nat) (M : Mem), i + d = l → M0.Upto M → ∃ M', p11_2 C prog.meth mo a l c (l : Int) (i : Int) M = some (.int .i64 (if chkI (code.drop i) = 0 then chkT tabs else chkI (code.drop i)), M') ∧ M0.Upto M' := by
  intro d
  have hlen := hc.2
  have hmo : mo < M0.n := by
    unfold Mem.ldL at gm
    obtain ⟨x, hx, _⟩ := Option.bind_eq_some_iff.1 gm
    exact ld_lt hx
  induction d with
  | zero =>
    intro i M hi hu
    have hF := p11_2_eq C prog.meth mo a l c (l : Int) (i : Int) M
    have q : ¬ ((i : Int) < (l : Int)) := by omega
    have gm' : M.ldL mo 1 = some ta := by unfold Mem.ldL at gm ⊢; rw [ld_same (hu.2 mo hmo)]; exact gm
    simp only [int?_int, rvs, Int.reduceBEq, Int.reduceBNe, Int.cast_ofNat_Int, q, gm'] at hF
    rw [List.drop_eq_nil_of_le (by omega)]
    have c3 := check_tabs (ht.upto encS1 (by omega) hu) (hT.upto hu) htl ta.2.1 0 (by omega)
    exact ⟨M, hF.trans c3, hu⟩
  | succ d ih =>
    intro i M hi hu
    have hF := p11_2_eq C prog.meth mo a l c (l : Int) (i : Int) M
    have q : ((i : Int) < (l : Int)) := by omega
    have k0 : (0 : Int) ≤ (i : Int) := by omega
    have k1 : Nat.blt i l = true := Mem.blt_iff.2 (by omega)
    have w1 : IntKind.wrap .i64 ((i : Int) + 1) = ((i + 1 : Nat) : Int) := by rw [wrap_i64 (by omega) (by omega)]; rfl
    obtain ⟨p, x, hp, hx, v0, v1, v2, v3, v4⟩ := ins_ld (hc.upto encI5 (by omega) hu) (i := i) (by omega)
    obtain ⟨M1, s1, u1, n1, x0, x1, x2, x3, x4⟩ := ibox5 M x
    have hxr := hr x (List.mem_of_getElem? hx)
    obtain ⟨Mc, cc, _⟩ := Check_B (M := Mem.empty) hxr
    have eo : errI (okB x.1 x.2.1 x.2.2.1 x.2.2.2.1 x.2.2.2.2) = errI (okA x) := rfl
    rw [eo] at cc
    rw [chkI_drop hx]
    have hE : ∀ e : Int, errI (okA x) = e → p11_2 C prog.meth mo a l c (l : Int) (i : Int) M = cond (e != 0) (some (.int .i64 e, M1)) (p11_2 C prog.meth mo a l c (l : Int) ((i + 1 : Nat) : Int) M1) := fun e he => by
      rw [he] at cc
      simp only [int?_int, rvs, Int.reduceBEq, Int.reduceBNe, Int.cast_ofNat_Int, q, k0, k1, Int.toNat_natCast, hp, v0, v1, v2, v3, v4, s1, x0, x1, x2, x3, x4, cc, w1] at hF
      exact hF
    cases ho : okA x with
    | true =>
      have := hE 0 (by rw [ho]; rfl)
      rw [this]
      exact ih (i + 1) M1 (by omega) (hu.trans u1)
    | false =>
      have := hE 130 (by rw [ho]; rfl)
      rw [this]
      exact ⟨M1, rfl, hu.trans u1⟩
abbrev mv (ca ta : SlV) : AVal := .agg [.sl ca.1 ca.2.1 ca.2.2, .sl ta.1 ta.2.1 ta.2.2]
theorem mbox (M : Mem) (ca ta : SlV) : ∃ M', M.alloc ⟨[.sl ca.1 ca.2.1 ca.2.2, .sl ta.1 ta.2.1 ta.2.2], .fixed⟩ = M' ∧ M.Upto M' ∧ M'.n = M.n + 1 ∧ M'.ldL M.n 0 = some ca ∧ M'.ldL M.n 1 = some ta := by
  obtain ⟨M1, e1, g1, u1, n1⟩ := alloc_at M ⟨[.sl ca.1 ca.2.1 ca.2.2, .sl ta.1 ta.2.1 ta.2.2], .fixed⟩
  refine ⟨M1, e1, u1, n1, ?_, ?_⟩
  · rw [ldL_at g1]; rfl
  · rw [ldL_at g1]; rfl
theorem ldL_upto {mo i : Nat} {x : SlV} (h : M.ldL mo i = some x) (hu : M.Upto M') : M'.ldL mo i = some x := by
  unfold Mem.ldL at h ⊢
  obtain ⟨y, hy, _⟩ := Option.bind_eq_some_iff.1 h
  rw [ld_same (hu.2 mo (ld_lt hy))]; exact h
theorem Md.lens (h : Md M ca ta code tabs) : code.length = ca.2.1 ∧ tabs.length = ta.2.1 := by
  obtain ⟨h1, tvs, h2, h3⟩ := h
  exact ⟨h1.2, by have := h2.2; have := h3.1; omega⟩
theorem WCheck_C (h : Md M ca ta code tabs) (hr : ∀ x ∈ code, InsR x) : ∃ M', C 11 [mv ca ta] M = some (.int .i64 (chkM code tabs), M') ∧ M.Upto M' := by
  have hE := p11_0_eq C prog.meth ca.1 ca.2.1 ca.2.2 ta.1 ta.2.1 ta.2.2 M
  obtain ⟨M1, e1, u1, n1, l0, l1⟩ := mbox M ca ta
  obtain ⟨lc, lt⟩ := h.lens
  simp only [int?_int, rvs, Int.reduceBEq, Int.reduceBNe, Int.cast_ofNat_Int, e1, l0, l1] at hE
  unfold chkM
  by_cases q1 : (ca.2.1 : Int) > 256
  · simp only [int?_int, rvs, Int.reduceBEq, Int.reduceBNe, Int.cast_ofNat_Int, q1] at hE
    rw [if_pos (by omega)]
    exact ⟨M1, c11 hE, u1⟩
  · by_cases q2 : (ta.2.1 : Int) > 4
    · simp only [int?_int, rvs, Int.reduceBEq, Int.reduceBNe, Int.cast_ofNat_Int, q1, q2] at hE
      rw [if_pos (by omega)]
      exact ⟨M1, c11 hE, u1⟩
    · rw [if_neg (by omega)]
      by_cases q3 : ca.2.1 = 0
      · have q3' : ((ca.2.1 : Int) == 0) = true := by simp [q3]
        simp only [int?_int, rvs, Int.reduceBEq, Int.reduceBNe, Int.cast_ofNat_Int, q1, q2, q3'] at hE
        rw [if_pos (by omega)]
        exact ⟨M1, c11 hE, u1⟩
      · have q3' : ((ca.2.1 : Int) == 0) = false := by simp only [beq_eq_false_iff_ne, ne_eq]; omega
        simp only [int?_int, rvs, Int.reduceBEq, Int.reduceBNe, Int.cast_ofNat_Int, q1, q2, q3'] at hE
        rw [if_neg (by omega)]
        have hF := p11_1_eq C prog.meth M.n M1
        simp only [int?_int, rvs, Int.reduceBEq, Int.reduceBNe, Int.cast_ofNat_Int, l0] at hF
        obtain ⟨hc, tvs, ht, hT⟩ := h.upto u1
        obtain ⟨M2, c2, u2⟩ := check_code (mo := M.n) hc hr (by omega) l1 ht hT (by omega) ca.2.1 0 M1 (by omega) (Mem.Upto.refl M1)
        rw [List.drop_zero] at c2
        exact ⟨M2, c11 (hE.trans (hF.trans c2)), u1.trans u2⟩
theorem checkR_tabs {mo : Nat} {tvs : List SlV} (gm : M.ldL mo 1 = some ta) (h : Sl M 1 encS ta.1 ta.2.1 ta.2.2 tvs) (ht : Tbs M tvs tabs) (hl : ta.2.1 < 2 ^ 60) : ∀ (d i : Nat), i + d = ta.2.1 → p12_3 C prog.meth mo (i : Int) M = some (.int .i64 (chkT (tabs.drop i)), M) := by
  intro d
  have hlen := h.2
  induction d with
  | zero =>
    intro i hi
    have hF := p12_3_eq C prog.meth mo (i : Int) M
    have q : ¬ ((i : Int) < (ta.2.1 : Int)) := by omega
    simp only [int?_int, rvs, Int.reduceBEq, Int.reduceBNe, Int.cast_ofNat_Int, gm, q] at hF
    rw [List.drop_eq_nil_of_le (by have := ht.1; omega)]
    exact hF
  | succ d ih =>
    intro i hi
    have hF := p12_3_eq C prog.meth mo (i : Int) M
    have q : ((i : Int) < (ta.2.1 : Int)) := by omega
    have k0 : (0 : Int) ≤ (i : Int) := by omega
    have k1 : Nat.blt i ta.2.1 = true := Mem.blt_iff.2 (by omega)
    have w1 : IntKind.wrap .i64 ((i : Int) + 1) = ((i + 1 : Nat) : Int) := by rw [wrap_i64 (by omega) (by omega)]; rfl
    obtain ⟨p, x, hp, hx, hv⟩ := tv_ld h (i := i) (by omega)
    have hti : i < tabs.length := by have := ht.1; omega
    have hT := List.getElem?_eq_getElem hti
    have cT := TRCheck_C (ht.2 i x _ hx hT)
    rw [chkT_drop hT]
    by_cases hz : chk tabs[i] = 0
    · have q2 : (chk tabs[i] != 0) = false := by simp [hz]
      simp only [int?_int, rvs, Int.reduceBEq, Int.reduceBNe, Int.cast_ofNat_Int, gm, q, k0, k1, Int.toNat_natCast, hp, Nat.mul_one, hv, cT, q2, w1] at hF
      rw [if_pos hz, hF]
      exact ih (i + 1) (by omega)
    · have q2 : (chk tabs[i] != 0) = true := by simp [hz]
      simp only [int?_int, rvs, Int.reduceBEq, Int.reduceBNe, Int.cast_ofNat_Int, gm, q, k0, k1, Int.toNat_natCast, hp, Nat.mul_one, hv, cT, q2, w1] at hF
      rw [if_neg hz]; exact hF
theorem checkR_code {mo : Nat} {tvs : List SlV} (g0 : M.ldL mo 0 = some ca) (hc : Sl M 5 encI ca.1 ca.2.1 ca.2.2 code) (hr : ∀ x ∈ code, InsR x) (hl : ca.2.1 < 2 ^ 60) (gm : M.ldL mo 1 = some ta) (ht : Sl M 1 encS ta.1 ta.2.1 ta.2.2 tvs) (hT : Tbs M tvs tabs) (htl : ta.2.1 < 2 ^ 60) :
    ∀ (d i : Nat), i + d = ca.2.1 → p12_2 C prog.meth mo (i : Int) M = some (.int .i64 (if chkI (code.drop i) = 0 then chkT tabs else chkI (code.drop i)), M) := by
  intro d
  have hlen := hc.2
  induction d with
  | zero =>
    intro i hi
    have hF := p12_2_eq C prog.meth mo (i : Int) M
    have q : ¬ ((i : Int) < (ca.2.1 : Int)) := by omega
    simp only [int?_int, rvs, Int.reduceBEq, Int.reduceBNe, Int.cast_ofNat_Int, g0, q] at hF
    rw [List.drop_eq_nil_of_le (by omega)]
    have c3 := checkR_tabs gm ht hT htl ta.2.1 0 (by omega)
    exact hF.trans c3
  | succ d ih =>
    intro i hi
    have hF := p12_2_eq C prog.meth mo (i : Int) M
    have q : ((i : Int) < (ca.2.1 : Int)) := by omega
    have k0 : (0 : Int) ≤ (i : Int) := by omega
    have k1 : Nat.blt i ca.2.1 = true := Mem.blt_iff.2 (by omega)
    have w1 : IntKind.wrap .i64 ((i : Int) + 1) = ((i + 1 : Nat) : Int) := by rw [wrap_i64 (by omega) (by omega)]; rfl
    obtain ⟨p, x, hp, hx, v0, v1, v2, v3, v4⟩ := ins_ld hc (i := i) (by omega)
    have hxr := hr x (List.mem_of_getElem? hx)
    obtain ⟨Mc, cc, _⟩ := RCheck_C (M := Mem.empty) hxr
    have eo : errI (okB x.1 x.2.1 x.2.2.1 x.2.2.2.1 x.2.2.2.2) = errI (okA x) := rfl
    rw [eo] at cc
    rw [chkI_drop hx]
    have hE : ∀ e : Int, errI (okA x) = e → p12_2 C prog.meth mo (i : Int) M = cond (e != 0) (some (.int .i64 e, M)) (p12_2 C prog.meth mo ((i + 1 : Nat) : Int) M) := fun e he => by
      rw [he] at cc
      simp only [int?_int, rvs, Int.reduceBEq, Int.reduceBNe, Int.cast_ofNat_Int, g0, q, k0, k1, Int.toNat_natCast, hp, v0, v1, v2, v3, v4, cc, w1] at hF
      exact hF
    cases ho : okA x with
    | true =>
      have := hE 0 (by rw [ho]; rfl)
      rw [this]
      exact ih (i + 1) (by omega)
    | false =>
      have := hE 130 (by rw [ho]; rfl)
      rw [this]; rfl
theorem WRCheck_C (h : Md M ca ta code tabs) (hr : ∀ x ∈ code, InsR x) : ∃ M', C 12 [mv ca ta] M = some (.int .i64 (chkM code tabs), M') ∧ M.Upto M' := by
  have hE := p12_0_eq C prog.meth ca.1 ca.2.1 ca.2.2 ta.1 ta.2.1 ta.2.2 M
  obtain ⟨M1, e1, u1, n1, l0, l1⟩ := mbox M ca ta
  obtain ⟨lc, lt⟩ := h.lens
  simp only [int?_int, rvs, Int.reduceBEq, Int.reduceBNe, Int.cast_ofNat_Int, e1, l0, l1] at hE
  unfold chkM
  by_cases q1 : (ca.2.1 : Int) > 256
  · simp only [int?_int, rvs, Int.reduceBEq, Int.reduceBNe, Int.cast_ofNat_Int, q1] at hE
    rw [if_pos (by omega)]
    exact ⟨M1, c12 hE, u1⟩
  · by_cases q2 : (ta.2.1 : Int) > 4
    · simp only [int?_int, rvs, Int.reduceBEq, Int.reduceBNe, Int.cast_ofNat_Int, q1, q2] at hE
      rw [if_pos (by omega)]
      exact ⟨M1, c12 hE, u1⟩
    · rw [if_neg (by omega)]
      simp only [int?_int, rvs, Int.reduceBEq, Int.reduceBNe, Int.cast_ofNat_Int, q1, q2] at hE
      have hF := p12_1_eq C prog.meth M.n M1
      by_cases q3 : ca.2.1 = 0
      · have q3' : ((ca.2.1 : Int) == 0) = true := by simp [q3]
        simp only [int?_int, rvs, Int.reduceBEq, Int.reduceBNe, Int.cast_ofNat_Int, l0, q3'] at hF
        rw [if_pos (by omega)]
        exact ⟨M1, c12 (hE.trans hF), u1⟩
      · have q3' : ((ca.2.1 : Int) == 0) = false := by simp only [beq_eq_false_iff_ne, ne_eq]; omega
        simp only [int?_int, rvs, Int.reduceBEq, Int.reduceBNe, Int.cast_ofNat_Int, l0, q3'] at hF
        rw [if_neg (by omega)]
        obtain ⟨hc, tvs, ht, hT⟩ := h.upto u1
        have c2 := checkR_code (mo := M.n) l0 hc hr (by omega) l1 ht hT (by omega) ca.2.1 0 (by omega)
        rw [List.drop_zero] at c2
        exact ⟨M1, c12 (hE.trans (hF.trans c2)), u1⟩
theorem put_C {v size : Nat} (hv : v < 2 ^ 64) (h8 : size ≤ 8) (h : OwnK .u8 M w ys) (h0 : 0 < w.2.1) (hl : w.2.1 ≤ 2 ^ 40) : ∃ (M' : Mem) (w' : SlV), C 23 [.sl w.1 w.2.1 w.2.2, .int .u64 (v : Int), .int .i64 (size : Int)] M = some (.sl w'.1 w'.2.1 w'.2.2, M') ∧ OwnK .u8 M' w' (ys ++ beB size v) ∧ w'.2.1 = w.2.1 + size ∧ Mem.But (· ∈ fpS w) M M' ∧ FreshOf M (fpS w) (fpS w') := by
  have hE := p23_0_eq C prog.meth w.1 w.2.1 w.2.2 (v : Int) (size : Int) M
  have loop : ∀ (d i : Nat) (M : Mem) (w : SlV) (ys : List Int), i + d = size → OwnK .u8 M w ys → 0 < w.2.1 → w.2.1 ≤ 2 ^ 40 + i → ∃ (M' : Mem) (w' : SlV), p23_1 C prog.meth w.1 w.2.1 w.2.2 (v : Int) (size : Int) (size : Int) (i : Int) M = some (.sl w'.1 w'.2.1 w'.2.2, M') ∧ OwnK .u8 M' w' (ys ++ beB d v) ∧ w'.2.1 = w.2.1 + d ∧ Mem.But (· ∈ fpS w) M M' ∧ FreshOf M (fpS w) (fpS w') := by
    intro d
    induction d with
    | zero =>
      intro i M w ys hi h h0 hl
      have hF := p23_1_eq C prog.meth w.1 w.2.1 w.2.2 (v : Int) (size : Int) (size : Int) (i : Int) M
      have q : ¬ ((i : Int) < (size : Int)) := by omega
      simp only [int?_int, rvs, Int.reduceBEq, Int.reduceBNe, Int.cast_ofNat_Int, q] at hF
      exact ⟨M, w, hF, by rw [beB, List.append_nil]; exact h, rfl, Mem.But.refl _ _, FreshOf.refl _ _⟩
    | succ d ih =>
      intro i M w ys hi h h0 hl
      have hF := p23_1_eq C prog.meth w.1 w.2.1 w.2.2 (v : Int) (size : Int) (size : Int) (i : Int) M
      have q : ((i : Int) < (size : Int)) := by omega
      have w1 : IntKind.wrap .i64 ((i : Int) + 1) = ((i + 1 : Nat) : Int) := by rw [wrap_i64 (by omega) (by omega)]; rfl
      have a1 : IntKind.wrap .i64 ((size : Int) - 1) = ((size - 1 : Nat) : Int) := by rw [wrap_i64 (by omega) (by omega)]; omega
      have a2 : IntKind.wrap .i64 (((size - 1 : Nat) : Int) - (i : Int)) = (d : Int) := by rw [wrap_i64 (by omega) (by omega)]; omega
      have a3 : IntKind.wrap .i64 (8 * (d : Int)) = ((8 * d : Nat) : Int) := by rw [wrap_i64 (by omega) (by omega)]; omega
      have a4 : ¬ (((8 * d : Nat) : Int) < 0) := by omega
      have a5 : IntKind.wrap .u8 (Int.fdiv (v : Int) (2 ^ Nat.min (8 * d) (IntKind.bits .u64))) = ((v / 256 ^ d % 256 : Nat) : Int) := by
        have e1 : Nat.min (8 * d) (IntKind.bits .u64) = 8 * d := Nat.min_eq_left (show 8 * d ≤ 64 by omega)
        have e2 : (2 : Int) ^ (8 * d) = ((256 ^ d : Nat) : Int) := by
          rw [show (256 : Nat) = 2 ^ 8 from rfl, ← Nat.pow_mul]; norm_cast
        rw [e1, e2, Int.fdiv_eq_ediv_of_nonneg _ (Int.natCast_nonneg _), ← Int.natCast_ediv, wu8]; omega
      obtain ⟨M1, q1, q2, q3, q4⟩ := h.push (bytes := 1) ((v / 256 ^ d % 256 : Nat) : Int) (fun e => by omega) (by omega)
      simp only [int?_int, rvs, Int.reduceBEq, Int.reduceBNe, Int.cast_ofNat_Int, q, a1, a2, a3, a4, Int.toNat_natCast, a5, w1] at hF
      rw [q1] at hF
      obtain ⟨M2, w', c2, o2, l2, b2, f2⟩ := ih (i + 1) M1 (some (M.n + 1, 0), w.2.1 + 1, .unk 0) (ys ++ [((v / 256 ^ d % 256 : Nat) : Int)]) (by omega) q2 (by simp) (by simp only; omega)
      have fp1 : fpS ((some (M.n + 1, 0), w.2.1 + 1, .unk 0) : SlV) = [M.n + 1] := fpS_own rfl (by simp)
      rw [fp1] at b2 f2
      refine ⟨M2, w', hF.trans c2, ?_, by rw [l2]; simp only; omega, q4.trans b2 (fun o ho e => ?_), fun o ho => ?_⟩
      · rw [beB_front, show ys ++ (((v / 256 ^ d % 256 : Nat) : Int) :: beB d v) = (ys ++ [((v / 256 ^ d % 256 : Nat) : Int)]) ++ beB d v by simp]; exact o2
      · simp only [List.mem_singleton] at e; omega
      · rcases f2 o ho with e | e
        · simp only [List.mem_singleton] at e; exact .inr (by omega)
        · exact .inr (by omega)
  obtain ⟨M1, w', c1, o1, l1, b1, f1⟩ := loop size 0 M w ys (by omega) h h0 (by omega)
  exact ⟨M1, w', c23 (hE.trans c1), o1, l1, b1, f1⟩
theorem numberR_C {v size : Nat} (hv : v < 2 ^ 64) (h8 : size ≤ 8) : ∃ M', C 26 [.int .u64 (v : Int), .int .i64 (size : Int)] M = some (.sl (some (M.n, 0)) size (.known size), M') ∧ M.Upto M' ∧ M'.ints .u8 (some (M.n, 0)) size (.known size) = some (beB size v) ∧ M'.n = M.n + 1 := by
  have hE := p26_0_eq C prog.meth (v : Int) (size : Int) M
  have k0 : (0 : Int) ≤ (size : Int) := by omega
  have k1 : Nat.ble size size = true := ble_iff.2 (Nat.le_refl _)
  have k2 : Nat.ble (1 * size) (2 ^ 47) = true := ble_iff.2 (by omega)
  obtain ⟨M1, e1, g1, u1, n1⟩ := alloc_at M ⟨(List.replicate size (0 : Int)).map (.int .u8), .fixed⟩
  simp only [int?_int, rvs, Int.reduceBEq, Int.reduceBNe, Int.cast_ofNat_Int, k0, Int.toNat_natCast, k1, k2, Bool.and_self, replZ_int, e1] at hE
  have loop : ∀ (d v : Nat) (post : List Int) (M1 : Mem), v < 2 ^ 64 → M1.get M.n = some ⟨(List.replicate d (0 : Int) ++ post).map (.int .u8), .fixed⟩ → d + post.length = size → M.n < M1.n →
      ∃ M2, p26_1 C prog.meth (v : Int) (some (M.n, 0)) size (.known size) ((d : Int) - 1) M1 = some (.sl (some (M.n, 0)) size (.known size), M2) ∧ Mem.But (· = M.n) M1 M2 ∧ M2.n = M1.n ∧ M2.get M.n = some ⟨(beB d v ++ post).map (.int .u8), .fixed⟩ := by
    intro d
    induction d with
    | zero =>
      intro v post M1 hv hg hl hn
      have hF := p26_1_eq C prog.meth (v : Int) (some (M.n, 0)) size (.known size) (((0 : Nat) : Int) - 1) M1
      have q : ¬ ((((0 : Nat) : Int) - 1) ≥ 0) := by omega
      simp only [int?_int, rvs, Int.reduceBEq, Int.reduceBNe, Int.cast_ofNat_Int, q] at hF
      exact ⟨M1, hF, Mem.But.refl _ _, rfl, hg⟩
    | succ d ih =>
      intro v post M1 hv hg hl hn
      have hF := p26_1_eq C prog.meth (v : Int) (some (M.n, 0)) size (.known size) (((d + 1 : Nat) : Int) - 1) M1
      rw [show (((d + 1 : Nat) : Int) - 1) = (d : Int) by omega] at hF ⊢
      have q : ((d : Int) ≥ 0) := by omega
      have k1 : Nat.blt d size = true := Mem.blt_iff.2 (by omega)
      have a1 : IntKind.wrap .u8 (Int.tmod (v : Int) 256) = ((v % 256 : Nat) : Int) := by rw [Int.tmod_eq_emod_of_nonneg (by omega), wu8]; omega
      have a2 : IntKind.wrap .u64 (Int.tdiv (v : Int) 256) = ((v / 256 : Nat) : Int) := by rw [Int.tdiv_eq_ediv_of_nonneg (by omega), wu64]; omega
      have a3 : IntKind.wrap .i64 ((d : Int) - 1) = (d : Int) - 1 := wrap_i64 (by omega) (by omega)
      have hg' : M1.get M.n = some ⟨(List.replicate d (0 : Int) ++ ([(0 : Int)] ++ post)).map (.int .u8), .fixed⟩ := by
        rw [hg, List.replicate_succ', List.append_assoc]
      have s1 := part_put (ys := [((v % 256 : Nat) : Int)]) hg' (k := .fixed) rfl rfl
      rw [List.length_replicate] at s1
      simp only [List.map_cons, List.map_nil] at s1
      simp only [int?_int, rvs, Int.reduceBEq, Int.reduceBNe, Int.cast_ofNat_Int, q, k1, Int.toNat_natCast, slPtr, Nat.zero_add, Nat.mul_one, a1, s1, a2, a3] at hF
      have g2 := get_put_self (M := M1) (o := M.n) (x := ⟨(List.replicate d (0 : Int) ++ ([((v % 256 : Nat) : Int)] ++ post)).map (.int .u8), .fixed⟩) hn
      simp only [List.map_append, List.map_cons, List.map_nil] at g2
      obtain ⟨M2, c2, b2, n2, g3⟩ := ih (v / 256) ([((v % 256 : Nat) : Int)] ++ post) (M1.put M.n ⟨(List.replicate d (0 : Int) ++ ([((v % 256 : Nat) : Int)] ++ post)).map (.int .u8), .fixed⟩) (by omega) (get_put_self hn) (by simp; omega) hn
      refine ⟨M2, hF.trans ?_, (Mem.But.put _ _ _).trans b2 (fun _ _ e => e), n2, by rw [g3, beB, List.append_assoc]⟩
      first | exact c2 | (simp only [List.map_append, List.map_cons, List.map_nil] at c2; exact c2)
  have w1 : IntKind.wrap .i64 ((size : Int) - 1) = (size : Int) - 1 := wrap_i64 (by omega) (by omega)
  rw [w1] at hE
  obtain ⟨M2, c2, b2, n2, g2⟩ := loop size v [] M1 hv (by rw [List.append_nil]; exact g1) (by simp) (by omega)
  rw [List.append_nil] at g2
  refine ⟨M2, c26 (hE.trans c2), ⟨by omega, fun o ho => by rw [b2.2 o (by omega) (by omega), u1.2 o ho]⟩, ?_, by omega⟩
  have := ints_whole (k := .u8) (c := .known size) g2 (by simp) rfl
  rw [beB_length] at this
  exact this
end
end Go.Proofs.Ytmkncifbammfjaa.M
namespace Go.Proofs.Ytmkncifbammfjaa.M
open Go.Abs
section
variable {M M0 M' : Mem} {ca ta w : SlV} {code : List Ins} {tabs : List (List Pr)} {ys zs : List Int} {tvs : List SlV} {mo : Nat}
theorem OwnK.cat {a' : Option (Nat × Nat)} {l' : Nat} {c' : Cap} (h : OwnK .u8 M w ys) (h0 : 0 < w.2.1) (hy : M.ints .u8 a' l' c' = some zs) (hl' : 0 < l') (hb : w.2.1 + l' ≤ 2 ^ 46) :
    ∃ M', (∀ {β : Type} (K : Option (Nat × Nat) → Nat → Cap → Mem → Option β), appK false 1 1 M w.1 w.2.1 w.2.2 (.sl a' l' c') K = K (some (M.n, 0)) (w.2.1 + l') (.unk 0) M') ∧ OwnK .u8 M' (some (M.n, 0), w.2.1 + l', .unk 0) (ys ++ zs) ∧ M'.n = M.n + 1 ∧ Mem.But (· ∈ fpS w) M M' := by
  obtain ⟨o, e1, e2, g⟩ := h.2 h0
  have hl := h.1
  have hzl := ints_length hy
  have g2 := get_alloc_self (M.put o ⟨[], .dead⟩) ⟨ys.map (AVal.int .u8) ++ zs.map (AVal.int .u8), .grow 1⟩
  rw [← List.map_append] at g2
  refine ⟨_, fun K => ?_, ⟨by simp [hl, hzl], fun _ => ⟨_, rfl, rfl, g2⟩⟩, rfl, ⟨by simp, fun q hq hne => ?_⟩⟩
  · rw [e1, e2, appK_grow g (by omega) (by simp [hl]) (ints_raws.1 hy) hl' (by omega), ← List.map_append]
  · rw [fpS_own e1 h0] at hne
    simp only [List.mem_singleton] at hne
    rw [get_alloc_lt (by simp; omega), get_put_ne hne]
structure Pk (M0 M : Mem) (w : SlV) (ys : List Int) : Prop where
  u : M0.Upto M
  o : OwnK .u8 M w ys
  pos : 0 < w.2.1
  new : ∀ o ∈ fpS w, M0.n ≤ o
theorem Pk.len (h : Pk M0 M w ys) : ys.length = w.2.1 := h.o.1
theorem Pk.put (h : Pk M0 M w ys) {v size : Nat} (hv : v < 2 ^ 64) (h8 : size ≤ 8) (hl : ys.length ≤ 2 ^ 40) : ∃ (M' : Mem) (w' : SlV), C 23 [.sl w.1 w.2.1 w.2.2, .int .u64 (v : Int), .int .i64 (size : Int)] M = some (.sl w'.1 w'.2.1 w'.2.2, M') ∧ Pk M0 M' w' (ys ++ beB size v) ∧ Mem.But (· ∈ fpS w) M M' := by
  obtain ⟨M1, w1, c1, o1, l1, b1, f1⟩ := put_C hv h8 h.o h.pos (by rw [← h.len]; omega)
  have := h.pos
  have hn := h.u.1
  exact ⟨M1, w1, c1, ⟨⟨by have := b1.1; omega, fun o ho => by rw [b1.2 o (by omega) (fun e => by have := h.new o e; omega), h.u.2 o ho]⟩, o1, by omega, fun o ho => by
    rcases f1 o ho with e | e
    · exact h.new o e
    · omega⟩, b1⟩
theorem Pk.upto (h : Pk M0 M w ys) (hu : M.Upto M') : Pk M0 M' w ys := ⟨h.u.trans hu, h.o.upto hu, h.pos, h.new⟩
theorem Pk.cat {a' : Option (Nat × Nat)} {l' : Nat} {c' : Cap} (h : Pk M0 M w ys) (hy : M.ints .u8 a' l' c' = some zs) (hl' : 0 < l') (hb : ys.length + l' ≤ 2 ^ 46) :
    ∃ M', (∀ {β : Type} (K : Option (Nat × Nat) → Nat → Cap → Mem → Option β), appK false 1 1 M w.1 w.2.1 w.2.2 (.sl a' l' c') K = K (some (M.n, 0)) (w.2.1 + l') (.unk 0) M') ∧ Pk M0 M' (some (M.n, 0), w.2.1 + l', .unk 0) (ys ++ zs) := by
  obtain ⟨M1, q1, q2, q3, q4⟩ := OwnK.cat h.o h.pos hy hl' (by rw [← h.len]; exact hb)
  have := h.pos
  have hn := h.u.1
  refine ⟨M1, q1, ⟨by omega, fun o ho => by rw [q4.2 o (by omega) (fun e => by have := h.new o e; omega), h.u.2 o ho]⟩, q2, by simp only; omega, fun o ho => ?_⟩
  rw [fpS_own rfl (by simp only; omega)] at ho
  simp only [List.mem_singleton] at ho
  omega
theorem Pk.push (h : Pk M0 M w ys) (y : Int) (hb : ys.length ≤ 2 ^ 46) : ∃ M', (∀ {β : Type} (K : Option (Nat × Nat) → Nat → Cap → Mem → Option β), appK false 1 1 (M.alloc ⟨[.int .u8 y], .fixed⟩) w.1 w.2.1 w.2.2 (.sl (some (M.n, 0)) 1 (.known 1)) K = K (some (M.n + 1, 0)) (w.2.1 + 1) (.unk 0) M') ∧ Pk M0 M' (some (M.n + 1, 0), w.2.1 + 1, .unk 0) (ys ++ [y]) := by
  have := h.pos
  have hn := h.u.1
  have hl := h.len
  obtain ⟨M1, q1, q2, q3, q4⟩ := h.o.push (bytes := 1) y (fun e => by omega) (by omega)
  refine ⟨M1, q1, ⟨by omega, fun o ho => by rw [q4.2 o (by omega) (fun e => by have := h.new o e; omega), h.u.2 o ho]⟩, q2, by simp, fun o ho => ?_⟩
  rw [fpS_own rfl (by simp)] at ho
  simp only [List.mem_singleton] at ho
  omega
theorem drop_flat {α : Type} {f : α → List Int} {l : List α} {i : Nat} {x : α} (h : l[i]? = some x) : (l.drop i).flatMap f = f x ++ (l.drop (i + 1)).flatMap f := by
  obtain ⟨h1, h2⟩ := List.getElem?_eq_some_iff.1 h
  rw [List.drop_eq_getElem_cons h1, List.flatMap_cons, h2]
theorem pack_code {a : Option (Nat × Nat)} {l : Nat} {c : Cap} (hc : Sl M0 5 encI a l c code) (hr : ∀ x ∈ code, InsR x ∧ okA x = true) (hl : l ≤ 1000) :
    ∀ (d i : Nat) (M : Mem) (w : SlV) (ys : List Int), i + d = l → Pk M0 M w ys → ys.length + 8 * d ≤ 2 ^ 40 →
      ∃ (M' : Mem) (w' : SlV), p9_1 C prog.meth mo w.1 w.2.1 w.2.2 a l c (l : Int) (i : Int) M = p9_1 C prog.meth mo w'.1 w'.2.1 w'.2.2 a l c (l : Int) (l : Int) M' ∧ Pk M0 M' w' (ys ++ (code.drop i).flatMap (fun x => beB 8 (wdA x))) := by
  intro d
  have hlen := hc.2
  induction d with
  | zero =>
    intro i M w ys hi h hb
    obtain rfl : i = l := by omega
    refine ⟨M, w, rfl, ?_⟩
    rw [List.drop_eq_nil_of_le (by omega), List.flatMap_nil, List.append_nil]; exact h
  | succ d ih =>
    intro i M w ys hi h hb
    have hF := p9_1_eq C prog.meth mo w.1 w.2.1 w.2.2 a l c (l : Int) (i : Int) M
    have q : ((i : Int) < (l : Int)) := by omega
    have k0 : (0 : Int) ≤ (i : Int) := by omega
    have k1 : Nat.blt i l = true := Mem.blt_iff.2 (by omega)
    have w1 : IntKind.wrap .i64 ((i : Int) + 1) = ((i + 1 : Nat) : Int) := by rw [wrap_i64 (by omega) (by omega)]; rfl
    obtain ⟨p, x, hp, hx, v0, v1, v2, v3, v4⟩ := ins_ld (hc.upto encI5 (by omega) h.u) (i := i) (by omega)
    obtain ⟨M1, s1, u1, n1, x0, x1, x2, x3, x4⟩ := ibox5 M x
    obtain ⟨hxr, hxo⟩ := hr x (List.mem_of_getElem? hx)
    obtain ⟨Mc, cc, _⟩ := Encode_C (M := Mem.empty) hxr
    have eo : okB x.1 x.2.1 x.2.2.1 x.2.2.2.1 x.2.2.2.2 = true := hxo
    have ew : wordN x.1 x.2.1 x.2.2.1 x.2.2.2.1 x.2.2.2.2 = wdA x := rfl
    rw [eo, ew] at cc
    have cc : C 24 [.agg [.int .u8 (x.1 : Int), .int .u8 x.2.1, .int .u8 x.2.2.1, .int .i16 x.2.2.2.1, .int .i32 x.2.2.2.2]] Mem.empty = some (.tup [.int .u64 (wdA x : Int), .int .i64 0], Mc) := cc
    obtain ⟨M2, w2, c2, h2, b2⟩ := (h.upto u1).put (v := wdA x) (size := 8) (dec_wd hxr hxo).2 (by omega) (by omega)
    have c2 : C 23 [.sl w.1 w.2.1 w.2.2, .int .u64 (wdA x : Int), .int .i64 8] M1 = _ := c2
    simp only [int?_int, rvs, Int.reduceBEq, Int.reduceBNe, Int.cast_ofNat_Int, q, k0, k1, Int.toNat_natCast, hp, v0, v1, v2, v3, v4, s1, x0, x1, x2, x3, x4] at hF
    rw [cc, Option.bind_some] at hF
    simp only [int?_int, rvs, Int.reduceBEq, Int.reduceBNe, Int.cast_ofNat_Int] at hF
    rw [c2, Option.bind_some] at hF
    simp only [int?_int, rvs, Int.reduceBEq, Int.reduceBNe, Int.cast_ofNat_Int, w1] at hF
    obtain ⟨M3, w3, c3, h3⟩ := ih (i + 1) M2 w2 (ys ++ beB 8 (wdA x)) (by omega) h2 (by rw [List.length_append, beB_length]; omega)
    refine ⟨M3, w3, hF.trans c3, ?_⟩
    rw [drop_flat hx, ← List.append_assoc]; exact h3
theorem pack_pairs {a : Option (Nat × Nat)} {l n i : Nat} {c : Cap} {tv : SlV} {T : List Pr} (hT : Sl M0 2 encP tv.1 tv.2.1 tv.2.2 T) (hr : ∀ p ∈ T, PrR p) (hl : T.length ≤ 64) (hi : i < 1000) :
    ∀ (d k : Nat) (M : Mem) (w : SlV) (ys : List Int), k + d = tv.2.1 → Pk M0 M w ys → ys.length + 16 * d ≤ 2 ^ 40 →
      ∃ (M' : Mem) (w' : SlV), p9_3 C prog.meth w.1 w.2.1 w.2.2 a l c (n : Int) (i : Int) tv.1 tv.2.1 tv.2.2 (tv.2.1 : Int) (k : Int) M = p9_2 C prog.meth w'.1 w'.2.1 w'.2.2 a l c (n : Int) ((i + 1 : Nat) : Int) M' ∧ Pk M0 M' w' (ys ++ (T.drop k).flatMap pB) := by
  intro d
  have hlen := hT.2
  induction d with
  | zero =>
    intro k M w ys hk h hb
    have hF := p9_3_eq C prog.meth w.1 w.2.1 w.2.2 a l c (n : Int) (i : Int) tv.1 tv.2.1 tv.2.2 (tv.2.1 : Int) (k : Int) M
    have q : ¬ ((k : Int) < (tv.2.1 : Int)) := by omega
    have w1 : IntKind.wrap .i64 ((i : Int) + 1) = ((i + 1 : Nat) : Int) := by rw [wrap_i64 (by omega) (by omega)]; rfl
    simp only [int?_int, rvs, Int.reduceBEq, Int.reduceBNe, Int.cast_ofNat_Int, q, w1] at hF
    refine ⟨M, w, hF, ?_⟩
    rw [List.drop_eq_nil_of_le (by omega), List.flatMap_nil, List.append_nil]; exact h
  | succ d ih =>
    intro k M w ys hk h hb
    have hF := p9_3_eq C prog.meth w.1 w.2.1 w.2.2 a l c (n : Int) (i : Int) tv.1 tv.2.1 tv.2.2 (tv.2.1 : Int) (k : Int) M
    have q : ((k : Int) < (tv.2.1 : Int)) := by omega
    have k0 : (0 : Int) ≤ (k : Int) := by omega
    have k1 : Nat.blt k tv.2.1 = true := Mem.blt_iff.2 (by omega)
    have w1 : IntKind.wrap .i64 ((k : Int) + 1) = ((k + 1 : Nat) : Int) := by rw [wrap_i64 (by omega) (by omega)]; rfl
    obtain ⟨p, hp, v0, v1⟩ := pr_ld (hT.upto encP2 (by omega) h.u) (i := k) (by omega)
    obtain ⟨x, hx⟩ : ∃ x, T[k]'(by omega) = x := ⟨_, rfl⟩
    rw [hx] at v0 v1
    have hx' : T[k]? = some x := by rw [List.getElem?_eq_getElem (by omega), hx]
    have hxr := hr x (List.mem_of_getElem? hx')
    obtain ⟨⟨r1, r2⟩, r3, r4⟩ := hxr
    obtain ⟨M1, e1, g1, u1, n1⟩ := alloc_at M ⟨[.int .u64 0, .int .u64 0], .fixed⟩
    obtain ⟨M2, s2, g2, n2, b2⟩ := st_at (i := 0) (vs := [.int .u64 x.1, .int .u64 x.2]) g1 (by simp)
    simp only [overL] at g2
    have u2 : M.Upto M2 := ⟨by omega, fun o ho => by rw [b2.2 o (by omega) (by omega), u1.2 o ho]⟩
    have x0 : M2.ldI .u64 M.n 0 = some x.1 := by rw [ldI_at g2]; rfl
    have h2 := h.upto u2
    obtain ⟨M3, w3, c3, h3, b3⟩ := h2.put (v := x.1.toNat) (size := 8) (by omega) (by omega) (by omega)
    rw [show ((x.1.toNat : Nat) : Int) = x.1 by omega] at c3
    have c3 : C 23 [.sl w.1 w.2.1 w.2.2, .int .u64 x.1, .int .i64 8] M2 = _ := c3
    have g3 := (b3.2 M.n (by omega) (fun e => by have := h.o.lt M.n e; omega)).trans g2
    have x1 : M3.ldI .u64 M.n 1 = some x.2 := by rw [ldI_at g3]; rfl
    have t1 : M2.still M.n 1 [.int .u64 x.2] = true := still1 (by rw [ld_fix g2]; rfl)
    obtain ⟨M4, w4, c4, h4, b4⟩ := h3.put (v := x.2.toNat) (size := 8) (by omega) (by omega) (by rw [List.length_append, beB_length]; omega)
    rw [show ((x.2.toNat : Nat) : Int) = x.2 by omega] at c4
    have c4 : C 23 [.sl w3.1 w3.2.1 w3.2.2, .int .u64 x.2, .int .i64 8] M3 = _ := c4
    simp only [int?_int, rvs, Int.reduceBEq, Int.reduceBNe, Int.cast_ofNat_Int, q, k0, k1, Int.toNat_natCast, hp, v0, v1, e1, s2, x0] at hF
    rw [c3, Option.bind_some] at hF
    simp only [int?_int, rvs, Int.reduceBEq, Int.reduceBNe, Int.cast_ofNat_Int, x1] at hF
    rw [c4, Option.bind_some] at hF
    simp only [int?_int, rvs, Int.reduceBEq, Int.reduceBNe, Int.cast_ofNat_Int, t1, w1] at hF
    obtain ⟨M5, w5, c5, h5⟩ := ih (k + 1) M4 w4 (ys ++ beB 8 x.1.toNat ++ beB 8 x.2.toNat) (by omega) h4 (by rw [List.length_append, List.length_append, beB_length, beB_length]; omega)
    refine ⟨M5, w5, hF.trans c5, ?_⟩
    rw [drop_flat hx']
    unfold pB
    simp only [List.append_assoc] at h5 ⊢
    exact h5
theorem pack_tabs {a : Option (Nat × Nat)} {l : Nat} {c : Cap} (ht : Sl M0 1 encS a l c tvs) (hT : Tbs M0 tvs tabs) (hr : ∀ T ∈ tabs, (∀ p ∈ T, PrR p) ∧ T.length ≤ 64) (hl : l ≤ 100) :
    ∀ (d i : Nat) (M : Mem) (w : SlV) (ys : List Int), i + d = l → Pk M0 M w ys → ys.length + 2000 * d ≤ 2 ^ 39 →
      ∃ (M' : Mem) (w' : SlV), p9_2 C prog.meth w.1 w.2.1 w.2.2 a l c (l : Int) (i : Int) M = p9_2 C prog.meth w'.1 w'.2.1 w'.2.2 a l c (l : Int) (l : Int) M' ∧ Pk M0 M' w' (ys ++ (tabs.drop i).flatMap tabB) := by
  intro d
  have hlen := ht.2
  have hlen2 := hT.1
  induction d with
  | zero =>
    intro i M w ys hi h hb
    obtain rfl : i = l := by omega
    refine ⟨M, w, rfl, ?_⟩
    rw [List.drop_eq_nil_of_le (by omega), List.flatMap_nil, List.append_nil]; exact h
  | succ d ih =>
    intro i M w ys hi h hb
    have hF := p9_2_eq C prog.meth w.1 w.2.1 w.2.2 a l c (l : Int) (i : Int) M
    have q : ((i : Int) < (l : Int)) := by omega
    have k0 : (0 : Int) ≤ (i : Int) := by omega
    have k1 : Nat.blt i l = true := Mem.blt_iff.2 (by omega)
    obtain ⟨p, tv, hp, hx, hv⟩ := tv_ld (ht.upto encS1 (by omega) h.u) (i := i) (by omega)
    have hTi := List.getElem?_eq_getElem (show i < tabs.length by omega)
    obtain ⟨T, hTe⟩ : ∃ T, tabs[i]'(by omega) = T := ⟨_, rfl⟩
    rw [hTe] at hTi
    have sT := hT.2 i tv T hx hTi
    obtain ⟨r1, r2⟩ := hr T (List.mem_of_getElem? hTi)
    have hTl := sT.2
    have w1 : IntKind.wrap .u8 (tv.2.1 : Int) = (T.length : Int) := by rw [wu8]; omega
    obtain ⟨M1, q1, h1⟩ := h.push (T.length : Int) (by omega)
    simp only [int?_int, rvs, Int.reduceBEq, Int.reduceBNe, Int.cast_ofNat_Int, q, k0, k1, Int.toNat_natCast, hp, Nat.mul_one, hv, w1] at hF
    rw [q1] at hF
    obtain ⟨M2, w2, c2, h2⟩ := pack_pairs (a := a) (l := l) (c := c) (n := l) (i := i) sT r1 r2 (by omega) tv.2.1 0 M1 (some (M.n + 1, 0), w.2.1 + 1, .unk 0) (ys ++ [(T.length : Int)]) (by omega) h1 (by rw [List.length_append]; simp only [List.length_singleton]; omega)
    rw [List.drop_zero] at h2
    have hfl : (T.flatMap pB).length = 16 * T.length := by
      have : ∀ T : List Pr, (T.flatMap pB).length = 16 * T.length := fun T => by
        induction T with
        | nil => rfl
        | cons x T ih => rw [List.flatMap_cons, List.length_append, ih, pB_length, List.length_cons]; omega
      exact this T
    obtain ⟨M3, w3, c3, h3⟩ := ih (i + 1) M2 w2 _ (by omega) h2 (by simp only [List.length_append, List.length_singleton]; omega)
    refine ⟨M3, w3, hF.trans (c2.trans c3), ?_⟩
    rw [drop_flat hTi]
    unfold tabB
    simp only [List.append_assoc, List.singleton_append, List.cons_append] at h3 ⊢
    exact h3
structure Wfm (code : List Ins) (tabs : List (List Pr)) : Prop where
  i : ∀ x ∈ code, InsR x
  p : ∀ T ∈ tabs, ∀ p ∈ T, PrR p
open Classical in
noncomputable def packOr (code : List Ins) (tabs : List (List Pr)) : List Int := if chkM code tabs = 0 then packB code tabs else []
theorem flat_len {code : List Ins} : (code.flatMap (fun x => beB 8 (wdA x))).length = 8 * code.length := by
  induction code with
  | nil => rfl
  | cons x r ih => rw [List.flatMap_cons, List.length_append, ih, beB_length, List.length_cons]; omega
theorem pair_len (T : List Pr) : (T.flatMap pB).length = 16 * T.length := by
  induction T with
  | nil => rfl
  | cons x T ih => rw [List.flatMap_cons, List.length_append, ih, pB_length, List.length_cons]; omega
theorem tabB_len (T : List Pr) : (tabB T).length = 16 * T.length + 1 := by
  unfold tabB
  rw [List.length_cons, pair_len]
theorem tabs_len : ∀ {tabs : List (List Pr)}, (∀ T ∈ tabs, T.length ≤ 64) → (tabs.flatMap tabB).length ≤ 1025 * tabs.length
  | [], _ => by simp
  | T :: l, h => by
    have h1 := tabs_len (tabs := l) (fun x hx => h x (by simp [hx]))
    have h2 := h T (by simp)
    rw [List.flatMap_cons, List.length_append, List.length_cons, tabB_len]
    omega
theorem Pack_C (h : Md M ca ta code tabs) (hw : Wfm code tabs) : ∃ (M' : Mem) (w : SlV), C 9 [mv ca ta] M = some (.tup [.sl w.1 w.2.1 w.2.2, .int .i64 (chkM code tabs)], M') ∧ M.Upto M' ∧ OwnK .u8 M' w (packOr code tabs) ∧ ∀ o ∈ fpS w, M.n ≤ o := by
  have hE := p9_0_eq C prog.meth ca.1 ca.2.1 ca.2.2 ta.1 ta.2.1 ta.2.2 M
  obtain ⟨M1, e1, u1, n1, l0, l1⟩ := mbox M ca ta
  obtain ⟨M2, c2, u2⟩ := WCheck_C (h.upto u1) hw.i
  have c2 : C 11 [.agg [.sl ca.1 ca.2.1 ca.2.2, .sl ta.1 ta.2.1 ta.2.2]] M1 = _ := c2
  obtain ⟨lc, lt⟩ := h.lens
  simp only [int?_int, rvs, Int.reduceBEq, Int.reduceBNe, Int.cast_ofNat_Int, e1, l0, l1] at hE
  rw [c2, Option.bind_some] at hE
  unfold packOr
  by_cases hz : chkM code tabs = 0
  · rw [if_pos hz]
    have hm := chkM_zero.1 hz
    obtain ⟨⟨m1, m2⟩, m3, m4, m5⟩ := hm
    have q0 : (chkM code tabs != 0) = false := by simp [hz]
    obtain ⟨M3, e3, g3, u3, n3⟩ := alloc_at M2 ⟨[.int .u8 115, .int .u8 112, .int .u8 108, .int .u8 121], .fixed⟩
    have g4 := get_put_self (M := M3) (o := M2.n) (x := ⟨[.int .u8 115, .int .u8 112, .int .u8 108, .int .u8 121], .grow 1⟩) (by omega)
    obtain ⟨M4, e4⟩ : ∃ M4, M3.put M2.n ⟨[.int .u8 115, .int .u8 112, .int .u8 108, .int .u8 121], .grow 1⟩ = M4 := ⟨_, rfl⟩
    rw [e4] at g4
    have n4 : M4.n = M3.n := by rw [← e4]; rfl
    have u4 : M.Upto M4 := ⟨by have := u1.1; have := u2.1; omega, fun o ho => by
      have := u1.1; have := u2.1
      rw [← e4, get_put_ne (by omega), u3.2 o (by omega), u2.2 o (by omega), u1.2 o ho]⟩
    have u14 : M1.Upto M4 := ⟨by have := u2.1; omega, fun o ho => by
      have := u2.1
      rw [← e4, get_put_ne (by omega), u3.2 o (by omega), u2.2 o ho]⟩
    have l1' := ldL_upto l1 u14
    have l0' := ldL_upto l0 u14
    have w1 : IntKind.wrap .u8 (ta.2.1 : Int) = (tabs.length : Int) := by rw [wu8]; omega
    have y3 : (AObj.mk [.int .u8 115, .int .u8 112, .int .u8 108, .int .u8 121] .fixed).fix = some () := rfl
    simp only [int?_int, rvs, Int.reduceBEq, Int.reduceBNe, Int.cast_ofNat_Int, q0, e3, slPtr, g3, y3, e4, l1', w1] at hE
    obtain ⟨M5, e5, g5, u5, n5⟩ := alloc_at M4 ⟨[.int .u8 1, .int .u8 (tabs.length : Int)], .fixed⟩
    simp only [e5] at hE
    have g45 := u5.get g4
    have r1 : M5.raws 1 (some (M2.n, 0)) 4 (.known 4) = some ([115, 112, 108, 121].map (AVal.int .u8)) := ints_raws.1 (ints_whole (xs := [115, 112, 108, 121]) (k := .u8) (c := .known 4) g45 (by simp) rfl)
    have r2 : M5.raws 1 (some (M4.n, 0)) 2 (.known 2) = some ([1, (tabs.length : Int)].map (AVal.int .u8)) := ints_raws.1 (ints_whole (xs := [1, (tabs.length : Int)]) (k := .u8) (c := .known 2) g5 (by simp) rfl)
    rw [appK_more r1 r2 (by omega) (by omega)] at hE
    obtain ⟨M6, e6, g6, u6, n6⟩ := alloc_at M5 ⟨[115, 112, 108, 121].map (AVal.int .u8) ++ [1, (tabs.length : Int)].map (AVal.int .u8), .grow 1⟩
    simp only [e6] at hE
    have u56 := u5.trans u6
    have l0'' := ldL_upto l0' u56
    have u16 : M1.Upto M6 := u14.trans u56
    have hP : Pk M1 M6 (some (M5.n, 0), 6, .unk 0) [115, 112, 108, 121, 1, (tabs.length : Int)] := ⟨u16, ⟨rfl, fun _ => ⟨M5.n, rfl, rfl, g6⟩⟩, by simp, fun o ho => by
      rw [fpS_own rfl (by simp)] at ho
      simp only [List.mem_singleton] at ho
      have := u14.1; omega⟩
    have w2 : IntKind.wrap .u64 (ca.2.1 : Int) = (code.length : Int) := by rw [wu64]; omega
    obtain ⟨M7, w7, c7, h7, b7⟩ := hP.put (v := code.length) (size := 2) (by omega) (by omega) (by simp)
    have c7 : C 23 [.sl (some (M5.n, 0)) 6 (.unk 0), .int .u64 (code.length : Int), .int .i64 2] M6 = _ := c7
    have l07 := ldL_upto l0 h7.u
    simp only [int?_int, rvs, Int.reduceBEq, Int.reduceBNe, Int.cast_ofNat_Int, l0'', w2] at hE
    rw [c7, Option.bind_some] at hE
    simp only [int?_int, rvs, Int.reduceBEq, Int.reduceBNe, Int.cast_ofNat_Int, l07] at hE
    obtain ⟨hc, tvs, ht, hT⟩ := h.upto u1
    obtain ⟨M8, w8, c8, h8⟩ := pack_code (mo := M.n) hc (fun x hx => ⟨hw.i x hx, m4 x hx⟩) (by omega) ca.2.1 0 M7 w7 _ (by omega) h7 (by simp [beB_length]; omega)
    rw [List.drop_zero] at h8
    have hG := p9_1_eq C prog.meth M.n w8.1 w8.2.1 w8.2.2 ca.1 ca.2.1 ca.2.2 (ca.2.1 : Int) (ca.2.1 : Int) M8
    have q1 : ¬ ((ca.2.1 : Int) < (ca.2.1 : Int)) := by omega
    have l18 := ldL_upto l1 h8.u
    simp only [int?_int, rvs, Int.reduceBEq, Int.reduceBNe, Int.cast_ofNat_Int, q1, l18] at hG
    obtain ⟨M9, w9, cc9, h9⟩ := pack_tabs ht hT (fun T hTm => ⟨hw.p T hTm, (m5 T hTm).1⟩) (by omega) ta.2.1 0 M8 w8 _ (by omega) h8 (by simp only [List.length_append, beB_length, flat_len, List.length_cons, List.length_nil]; omega)
    rw [List.drop_zero] at h9
    have eB : [115, 112, 108, 121, 1, (tabs.length : Int)] ++ beB 2 code.length ++ code.flatMap (fun x => beB 8 (wdA x)) ++ tabs.flatMap tabB = bodyB code tabs := by
      unfold bodyB headB; simp only [List.append_assoc]
    rw [eB] at h9
    have hK := p9_2_eq C prog.meth w9.1 w9.2.1 w9.2.2 ta.1 ta.2.1 ta.2.2 (ta.2.1 : Int) (ta.2.1 : Int) M9
    have q2 : ¬ ((ta.2.1 : Int) < (ta.2.1 : Int)) := by omega
    have hbl : (bodyB code tabs).length ≤ 100000 := by
      have := tabs_len (tabs := tabs) (fun T hTm => (m5 T hTm).1)
      rw [← eB]
      simp only [List.length_append, beB_length, flat_len, List.length_cons, List.length_nil]
      omega
    have hbb : Byt (bodyB code tabs) := by
      rw [← eB]
      have b1 : Byt [115, 112, 108, 121, 1, (tabs.length : Int)] := fun c hc => by
        simp only [List.mem_cons, List.not_mem_nil, or_false] at hc; omega
      refine Byt.app.2 ⟨Byt.app.2 ⟨Byt.app.2 ⟨b1, beB_byt _ _⟩, fun c hc => ?_⟩, fun c hc => ?_⟩
      · obtain ⟨x, _, hx⟩ := List.mem_flatMap.1 hc; exact beB_byt _ _ c hx
      · obtain ⟨T, hTm, hx⟩ := List.mem_flatMap.1 hc
        unfold tabB at hx
        rcases List.mem_cons.1 hx with rfl | hx
        · have := (m5 T hTm).1; omega
        · obtain ⟨y, _, hy⟩ := List.mem_flatMap.1 hx; exact pB_byt y c hy
    have cF := Field_C h9.o.ints hbb (by have := h9.len; omega)
    have w3 : IntKind.wrap .u64 (fieldA (bodyB code tabs) : Int) = (fieldA (bodyB code tabs) : Int) := by
      have := fieldA_lt (bodyB code tabs); rw [wu64]; omega
    obtain ⟨Ma', wa, c10, h10, b10⟩ := h9.put (v := fieldA (bodyB code tabs)) (size := 2) (by have := fieldA_lt (bodyB code tabs); omega) (by omega) (by omega)
    have c10 : C 23 [.sl w9.1 w9.2.1 w9.2.2, .int .u64 (fieldA (bodyB code tabs) : Int), .int .i64 2] M9 = _ := c10
    simp only [int?_int, rvs, Int.reduceBEq, Int.reduceBNe, Int.cast_ofNat_Int, q2] at hK
    rw [cF, Option.bind_some] at hK
    simp only [int?_int, rvs, Int.reduceBEq, Int.reduceBNe, Int.cast_ofNat_Int, w3] at hK
    rw [c10, Option.bind_some] at hK
    simp only [int?_int, rvs, Int.reduceBEq, Int.reduceBNe, Int.cast_ofNat_Int] at hK
    refine ⟨Ma', wa, by rw [hz]; exact c9 (hE.trans (c8.trans (hG.trans (cc9.trans hK)))), u1.trans h10.u, h10.o, fun o ho => by have := h10.new o ho; omega⟩
  · rw [if_neg hz]
    have q0 : (chkM code tabs != 0) = true := by simp [hz]
    simp only [int?_int, rvs, Int.reduceBEq, Int.reduceBNe, Int.cast_ofNat_Int, q0] at hE
    exact ⟨M2, (none, 0, .known 0), c9 hE, u1.trans u2, OwnK.nil _ _, fun o ho => by rw [fpS_zero rfl] at ho; simp at ho⟩
end
end Go.Proofs.Ytmkncifbammfjaa.M
namespace Go.Proofs.Ytmkncifbammfjaa.M
open Go.Abs
section
variable {M M0 M' : Mem} {ca ta w : SlV} {code : List Ins} {tabs : List (List Pr)} {ys zs : List Int} {tvs : List SlV} {mo : Nat}
theorem num_step (h : Pk M0 M w ys) {v size : Nat} (hv : v < 2 ^ 64) (h0 : 0 < size) (h8 : size ≤ 8) (hl : ys.length ≤ 2 ^ 40) : ∃ (M1 : Mem) (nv : SlV) (M2 : Mem) (w' : SlV), C 26 [.int .u64 (v : Int), .int .i64 (size : Int)] M = some (.sl nv.1 nv.2.1 nv.2.2, M1) ∧
    (∀ {β : Type} (K : Option (Nat × Nat) → Nat → Cap → Mem → Option β), appK false 1 1 M1 w.1 w.2.1 w.2.2 (.sl nv.1 nv.2.1 nv.2.2) K = K w'.1 w'.2.1 w'.2.2 M2) ∧ Pk M0 M2 w' (ys ++ beB size v) := by
  obtain ⟨M1, c1, u1, i1, n1⟩ := numberR_C (M := M) hv h8
  obtain ⟨M2, q2, h2⟩ := (h.upto u1).cat i1 h0 (by omega)
  exact ⟨M1, (some (M.n, 0), size, .known size), M2, (some (M1.n, 0), w.2.1 + size, .unk 0), c1, q2, h2⟩
theorem packR_code (g0 : M0.ldL mo 0 = some ca) (hc : Sl M0 5 encI ca.1 ca.2.1 ca.2.2 code) (hr : ∀ x ∈ code, InsR x ∧ okA x = true) (hl : ca.2.1 ≤ 1000) :
    ∀ (d i : Nat) (M : Mem) (w : SlV) (ys : List Int), i + d = ca.2.1 → Pk M0 M w ys → ys.length + 8 * d ≤ 2 ^ 40 →
      ∃ (M' : Mem) (w' : SlV), p10_1 C prog.meth mo w.1 w.2.1 w.2.2 (i : Int) M = p10_2 C prog.meth mo w'.1 w'.2.1 w'.2.2 0 M' ∧ Pk M0 M' w' (ys ++ (code.drop i).flatMap (fun x => beB 8 (wdA x))) := by
  intro d
  have hlen := hc.2
  induction d with
  | zero =>
    intro i M w ys hi h hb
    have hF := p10_1_eq C prog.meth mo w.1 w.2.1 w.2.2 (i : Int) M
    have q : ¬ ((i : Int) < (ca.2.1 : Int)) := by omega
    have g0' := ldL_upto g0 h.u
    simp only [int?_int, rvs, Int.reduceBEq, Int.reduceBNe, Int.cast_ofNat_Int, g0', q] at hF
    refine ⟨M, w, hF, ?_⟩
    rw [List.drop_eq_nil_of_le (by omega), List.flatMap_nil, List.append_nil]; exact h
  | succ d ih =>
    intro i M w ys hi h hb
    have hF := p10_1_eq C prog.meth mo w.1 w.2.1 w.2.2 (i : Int) M
    have q : ((i : Int) < (ca.2.1 : Int)) := by omega
    have k0 : (0 : Int) ≤ (i : Int) := by omega
    have k1 : Nat.blt i ca.2.1 = true := Mem.blt_iff.2 (by omega)
    have w1 : IntKind.wrap .i64 ((i : Int) + 1) = ((i + 1 : Nat) : Int) := by rw [wrap_i64 (by omega) (by omega)]; rfl
    have g0' := ldL_upto g0 h.u
    obtain ⟨p, x, hp, hx, v0, v1, v2, v3, v4⟩ := ins_ld (hc.upto encI5 (by omega) h.u) (i := i) (by omega)
    obtain ⟨hxr, hxo⟩ := hr x (List.mem_of_getElem? hx)
    obtain ⟨Mc, cc, _⟩ := REncode_C (M := Mem.empty) hxr
    have eo : okB x.1 x.2.1 x.2.2.1 x.2.2.2.1 x.2.2.2.2 = true := hxo
    have ew : wordN x.1 x.2.1 x.2.2.1 x.2.2.2.1 x.2.2.2.2 = wdA x := rfl
    rw [eo, ew] at cc
    have cc : C 27 [.agg [.int .u8 (x.1 : Int), .int .u8 x.2.1, .int .u8 x.2.2.1, .int .i16 x.2.2.2.1, .int .i32 x.2.2.2.2]] Mem.empty = some (.tup [.int .u64 (wdA x : Int), .int .i64 0], Mc) := cc
    obtain ⟨M1, nv, M2, w2, c1, q2, h2⟩ := num_step h (v := wdA x) (size := 8) (dec_wd hxr hxo).2 (by omega) (by omega) (by omega)
    have c1 : C 26 [.int .u64 (wdA x : Int), .int .i64 8] M = _ := c1
    simp only [int?_int, rvs, Int.reduceBEq, Int.reduceBNe, Int.cast_ofNat_Int, g0', q, k0, k1, Int.toNat_natCast, hp, v0, v1, v2, v3, v4] at hF
    rw [cc, Option.bind_some] at hF
    simp only [int?_int, rvs, Int.reduceBEq, Int.reduceBNe, Int.cast_ofNat_Int] at hF
    rw [c1, Option.bind_some] at hF
    simp only [int?_int, rvs, Int.reduceBEq, Int.reduceBNe, Int.cast_ofNat_Int] at hF
    rw [q2] at hF
    simp only [w1] at hF
    obtain ⟨M3, w3, c3, h3⟩ := ih (i + 1) M2 w2 (ys ++ beB 8 (wdA x)) (by omega) h2 (by rw [List.length_append, beB_length]; omega)
    refine ⟨M3, w3, hF.trans c3, ?_⟩
    rw [drop_flat hx, ← List.append_assoc]; exact h3
theorem packR_pairs {i : Nat} {p0 : Nat × Nat} {tv : SlV} {T : List Pr} (g1 : M0.ldL mo 1 = some ta) (k1 : Nat.blt i ta.2.1 = true) (hp0 : slPtr ta.1 ta.2.2 = some p0) (hv0 : M0.ldL p0.1 (p0.2 + i) = some tv) (hT : Sl M0 2 encP tv.1 tv.2.1 tv.2.2 T) (hr : ∀ p ∈ T, PrR p) (hl : T.length ≤ 64) (hi : i < 1000) :
    ∀ (d k : Nat) (M : Mem) (w : SlV) (ys : List Int), k + d = tv.2.1 → Pk M0 M w ys → ys.length + 16 * d ≤ 2 ^ 40 →
      ∃ (M' : Mem) (w' : SlV), p10_3 C prog.meth mo w.1 w.2.1 w.2.2 (i : Int) (k : Int) M = p10_2 C prog.meth mo w'.1 w'.2.1 w'.2.2 ((i + 1 : Nat) : Int) M' ∧ Pk M0 M' w' (ys ++ (T.drop k).flatMap pB) := by
  intro d
  have hlen := hT.2
  have k0 : (0 : Int) ≤ (i : Int) := by omega
  induction d with
  | zero =>
    intro k M w ys hk h hb
    have hF := p10_3_eq C prog.meth mo w.1 w.2.1 w.2.2 (i : Int) (k : Int) M
    have q : ¬ ((k : Int) < (tv.2.1 : Int)) := by omega
    have w1 : IntKind.wrap .i64 ((i : Int) + 1) = ((i + 1 : Nat) : Int) := by rw [wrap_i64 (by omega) (by omega)]; rfl
    have g1' := ldL_upto g1 h.u
    have hv' := ldL_upto hv0 h.u
    simp only [int?_int, rvs, Int.reduceBEq, Int.reduceBNe, Int.cast_ofNat_Int, g1', k0, k1, Int.toNat_natCast, hp0, Nat.mul_one, hv', q, w1] at hF
    refine ⟨M, w, hF, ?_⟩
    rw [List.drop_eq_nil_of_le (by omega), List.flatMap_nil, List.append_nil]; exact h
  | succ d ih =>
    intro k M w ys hk h hb
    have hF := p10_3_eq C prog.meth mo w.1 w.2.1 w.2.2 (i : Int) (k : Int) M
    have q : ((k : Int) < (tv.2.1 : Int)) := by omega
    have k2 : (0 : Int) ≤ (k : Int) := by omega
    have k3 : Nat.blt k tv.2.1 = true := Mem.blt_iff.2 (by omega)
    have w1 : IntKind.wrap .i64 ((k : Int) + 1) = ((k + 1 : Nat) : Int) := by rw [wrap_i64 (by omega) (by omega)]; rfl
    have g1' := ldL_upto g1 h.u
    have hv' := ldL_upto hv0 h.u
    obtain ⟨p, hp, v0, _⟩ := pr_ld (hT.upto encP2 (by omega) h.u) (i := k) (by omega)
    obtain ⟨x, hx⟩ : ∃ x, T[k]'(by omega) = x := ⟨_, rfl⟩
    rw [hx] at v0
    have hx' : T[k]? = some x := by rw [List.getElem?_eq_getElem (by omega), hx]
    have hxr := hr x (List.mem_of_getElem? hx')
    obtain ⟨⟨r1, r2⟩, r3, r4⟩ := hxr
    obtain ⟨M1, nv, M2, w2, c1, q1, h2⟩ := num_step h (v := x.1.toNat) (size := 8) (by omega) (by omega) (by omega) (by omega)
    rw [show ((x.1.toNat : Nat) : Int) = x.1 by omega] at c1
    have c1 : C 26 [.int .u64 x.1, .int .i64 8] M = _ := c1
    have g1'' := ldL_upto g1 h2.u
    have hv'' := ldL_upto hv0 h2.u
    obtain ⟨p', hp', _, v1⟩ := pr_ld (hT.upto encP2 (by omega) h2.u) (i := k) (by omega)
    rw [hp] at hp'; cases hp'
    rw [hx] at v1
    obtain ⟨M3, nv3, M4, w4, c3, q3, h4⟩ := num_step h2 (v := x.2.toNat) (size := 8) (by omega) (by omega) (by omega) (by rw [List.length_append, beB_length]; omega)
    rw [show ((x.2.toNat : Nat) : Int) = x.2 by omega] at c3
    have c3 : C 26 [.int .u64 x.2, .int .i64 8] M2 = _ := c3
    simp only [int?_int, rvs, Int.reduceBEq, Int.reduceBNe, Int.cast_ofNat_Int, g1', k0, k1, Int.toNat_natCast, hp0, Nat.mul_one, Nat.add_zero, hv', q, k2, k3, hp, v0] at hF
    rw [c1, Option.bind_some] at hF
    simp only [int?_int, rvs, Int.reduceBEq, Int.reduceBNe, Int.cast_ofNat_Int] at hF
    rw [q1] at hF
    simp only [int?_int, rvs, Int.reduceBEq, Int.reduceBNe, Int.cast_ofNat_Int, g1'', k0, k1, Int.toNat_natCast, hp0, Nat.mul_one, Nat.add_zero, hv'', k2, k3, hp, v1] at hF
    rw [c3, Option.bind_some] at hF
    simp only [int?_int, rvs, Int.reduceBEq, Int.reduceBNe, Int.cast_ofNat_Int] at hF
    rw [q3] at hF
    simp only [w1] at hF
    obtain ⟨M5, w5, c5, h5⟩ := ih (k + 1) M4 w4 (ys ++ beB 8 x.1.toNat ++ beB 8 x.2.toNat) (by omega) h4 (by rw [List.length_append, List.length_append, beB_length, beB_length]; omega)
    refine ⟨M5, w5, hF.trans c5, ?_⟩
    rw [drop_flat hx']
    unfold pB
    simp only [List.append_assoc] at h5 ⊢
    exact h5
theorem packR_tabs (g1 : M0.ldL mo 1 = some ta) (ht : Sl M0 1 encS ta.1 ta.2.1 ta.2.2 tvs) (hT : Tbs M0 tvs tabs) (hr : ∀ T ∈ tabs, (∀ p ∈ T, PrR p) ∧ T.length ≤ 64) (hl : ta.2.1 ≤ 100) :
    ∀ (d i : Nat) (M : Mem) (w : SlV) (ys : List Int), i + d = ta.2.1 → Pk M0 M w ys → ys.length + 2000 * d ≤ 2 ^ 39 →
      ∃ (M' : Mem) (w' : SlV), p10_2 C prog.meth mo w.1 w.2.1 w.2.2 (i : Int) M = p10_2 C prog.meth mo w'.1 w'.2.1 w'.2.2 (ta.2.1 : Int) M' ∧ Pk M0 M' w' (ys ++ (tabs.drop i).flatMap tabB) := by
  intro d
  have hlen := ht.2
  have hlen2 := hT.1
  induction d with
  | zero =>
    intro i M w ys hi h hb
    obtain rfl : i = ta.2.1 := by omega
    refine ⟨M, w, rfl, ?_⟩
    rw [List.drop_eq_nil_of_le (by omega), List.flatMap_nil, List.append_nil]; exact h
  | succ d ih =>
    intro i M w ys hi h hb
    have hF := p10_2_eq C prog.meth mo w.1 w.2.1 w.2.2 (i : Int) M
    have q : ((i : Int) < (ta.2.1 : Int)) := by omega
    have k0 : (0 : Int) ≤ (i : Int) := by omega
    have k1 : Nat.blt i ta.2.1 = true := Mem.blt_iff.2 (by omega)
    obtain ⟨p, tv, hp, hx, hv⟩ := tv_ld ht (i := i) (by omega)
    have hTi := List.getElem?_eq_getElem (show i < tabs.length by omega)
    obtain ⟨T, hTe⟩ : ∃ T, tabs[i]'(by omega) = T := ⟨_, rfl⟩
    rw [hTe] at hTi
    have sT := hT.2 i tv T hx hTi
    obtain ⟨r1, r2⟩ := hr T (List.mem_of_getElem? hTi)
    have hTl := sT.2
    have w1 : IntKind.wrap .u8 (tv.2.1 : Int) = (T.length : Int) := by rw [wu8]; omega
    have g1' := ldL_upto g1 h.u
    have hv' := ldL_upto hv h.u
    obtain ⟨M1, q1, h1⟩ := h.push (T.length : Int) (by omega)
    simp only [int?_int, rvs, Int.reduceBEq, Int.reduceBNe, Int.cast_ofNat_Int, g1', q, k0, k1, Int.toNat_natCast, hp, Nat.mul_one, hv', w1] at hF
    rw [q1] at hF
    obtain ⟨M2, w2, c2, h2⟩ := packR_pairs (i := i) g1 k1 hp hv sT r1 r2 (by omega) tv.2.1 0 M1 (some (M.n + 1, 0), w.2.1 + 1, .unk 0) (ys ++ [(T.length : Int)]) (by omega) h1 (by rw [List.length_append]; simp only [List.length_singleton]; omega)
    rw [List.drop_zero] at h2
    obtain ⟨M3, w3, c3, h3⟩ := ih (i + 1) M2 w2 _ (by omega) h2 (by simp only [List.length_append, List.length_singleton, pair_len]; omega)
    refine ⟨M3, w3, hF.trans (c2.trans c3), ?_⟩
    rw [drop_flat hTi]
    unfold tabB
    simp only [List.append_assoc, List.singleton_append, List.cons_append] at h3 ⊢
    exact h3
theorem body_len {code : List Ins} {tabs : List (List Pr)} (hm : Okm code tabs) : (bodyB code tabs).length ≤ 100000 := by
  have := tabs_len (tabs := tabs) (fun T hTm => (hm.tok T hTm).1)
  have h1 := hm.nc
  have h2 := hm.nt
  unfold bodyB headB
  simp only [List.length_append, beB_length, flat_len, List.length_cons, List.length_nil]
  omega
theorem body_byt {code : List Ins} {tabs : List (List Pr)} (hm : Okm code tabs) : Byt (bodyB code tabs) := by
  have h2 := hm.nt
  have b1 : Byt [115, 112, 108, 121, 1, (tabs.length : Int)] := fun c hc => by
    simp only [List.mem_cons, List.not_mem_nil, or_false] at hc; omega
  unfold bodyB headB
  refine Byt.app.2 ⟨Byt.app.2 ⟨b1, beB_byt _ _⟩, Byt.app.2 ⟨fun c hc => ?_, fun c hc => ?_⟩⟩
  · obtain ⟨x, _, hx⟩ := List.mem_flatMap.1 hc; exact beB_byt _ _ c hx
  · obtain ⟨T, hTm, hx⟩ := List.mem_flatMap.1 hc
    unfold tabB at hx
    rcases List.mem_cons.1 hx with rfl | hx
    · have := (hm.tok T hTm).1; omega
    · obtain ⟨y, _, hy⟩ := List.mem_flatMap.1 hx; exact pB_byt y c hy
theorem pack_byt {code : List Ins} {tabs : List (List Pr)} (hm : Okm code tabs) : Byt (packB code tabs) := Byt.app.2 ⟨body_byt hm, beB_byt _ _⟩
theorem pack_len {code : List Ins} {tabs : List (List Pr)} (hm : Okm code tabs) : (packB code tabs).length ≤ 100002 := by
  have := body_len hm
  unfold packB
  rw [List.length_append, beB_length]; omega
theorem RPack_C (h : Md M ca ta code tabs) (hw : Wfm code tabs) : ∃ (M' : Mem) (w : SlV), C 10 [mv ca ta] M = some (.tup [.sl w.1 w.2.1 w.2.2, .int .i64 (chkM code tabs)], M') ∧ M.Upto M' ∧ OwnK .u8 M' w (packOr code tabs) ∧ ∀ o ∈ fpS w, M.n ≤ o := by
  have hE := p10_0_eq C prog.meth ca.1 ca.2.1 ca.2.2 ta.1 ta.2.1 ta.2.2 M
  obtain ⟨M1, e1, u1, n1, l0, l1⟩ := mbox M ca ta
  obtain ⟨M2, c2, u2⟩ := WRCheck_C (h.upto u1) hw.i
  have c2 : C 12 [.agg [.sl ca.1 ca.2.1 ca.2.2, .sl ta.1 ta.2.1 ta.2.2]] M1 = _ := c2
  obtain ⟨lc, lt⟩ := h.lens
  simp only [int?_int, rvs, Int.reduceBEq, Int.reduceBNe, Int.cast_ofNat_Int, e1, l0, l1] at hE
  rw [c2, Option.bind_some] at hE
  unfold packOr
  by_cases hz : chkM code tabs = 0
  · rw [if_pos hz]
    have hm := chkM_zero.1 hz
    obtain ⟨⟨m1, m2⟩, m3, m4, m5⟩ := hm
    have q0 : (chkM code tabs != 0) = false := by simp [hz]
    have w1 : IntKind.wrap .u8 (ta.2.1 : Int) = (tabs.length : Int) := by rw [wu8]; omega
    have w2 : IntKind.wrap .u64 (ca.2.1 : Int) = (code.length : Int) := by rw [wu64]; omega
    have l12 := ldL_upto l1 u2
    obtain ⟨M3, e3, g3, u3, n3⟩ := alloc_at M2 ⟨[.int .u8 115, .int .u8 112, .int .u8 108, .int .u8 121, .int .u8 1, .int .u8 (tabs.length : Int)], .fixed⟩
    have l03 := ldL_upto l0 (u2.trans u3)
    simp only [int?_int, rvs, Int.reduceBEq, Int.reduceBNe, Int.cast_ofNat_Int, q0, l12, w1, e3, l03, w2] at hE
    obtain ⟨M4, cn, u4, i4, n4⟩ := numberR_C (M := M3) (v := code.length) (size := 2) (by omega) (by omega)
    have cn : C 26 [.int .u64 (code.length : Int), .int .i64 2] M3 = _ := cn
    rw [cn, Option.bind_some] at hE
    simp only [int?_int, rvs, Int.reduceBEq, Int.reduceBNe, Int.cast_ofNat_Int] at hE
    have g34 := u4.get g3
    have r1 : M4.raws 1 (some (M2.n, 0)) 6 (.known 6) = some ([115, 112, 108, 121, 1, (tabs.length : Int)].map (AVal.int .u8)) := ints_raws.1 (ints_whole (xs := [115, 112, 108, 121, 1, (tabs.length : Int)]) (k := .u8) (c := .known 6) g34 (by simp) rfl)
    rw [appK_more r1 (ints_raws.1 i4) (by omega) (by omega)] at hE
    obtain ⟨M5, e5, g5, u5, n5⟩ := alloc_at M4 ⟨[115, 112, 108, 121, 1, (tabs.length : Int)].map (AVal.int .u8) ++ (beB 2 code.length).map (AVal.int .u8), .grow 1⟩
    simp only [e5] at hE
    rw [← List.map_append] at g5
    have u15 : M1.Upto M5 := u2.trans (u3.trans (u4.trans u5))
    have hP : Pk M1 M5 (some (M4.n, 0), 6 + 2, .unk 0) ([115, 112, 108, 121, 1, (tabs.length : Int)] ++ beB 2 code.length) := ⟨u15, ⟨by rw [List.length_append, beB_length]; rfl, fun _ => ⟨M4.n, rfl, rfl, g5⟩⟩, by simp, fun o ho => by
      rw [fpS_own rfl (by simp)] at ho
      simp only [List.mem_singleton] at ho
      have := u2.1; omega⟩
    obtain ⟨hc, tvs, ht, hT⟩ := h.upto u1
    obtain ⟨M8, w8, c8, h8⟩ := packR_code (mo := M.n) l0 hc (fun x hx => ⟨hw.i x hx, m4 x hx⟩) (by omega) ca.2.1 0 M5 _ _ (by omega) hP (by simp [beB_length]; omega)
    rw [List.drop_zero] at h8
    obtain ⟨M9, w9, cc9, h9⟩ := packR_tabs (mo := M.n) l1 ht hT (fun T hTm => ⟨hw.p T hTm, (m5 T hTm).1⟩) (by omega) ta.2.1 0 M8 w8 _ (by omega) h8 (by simp only [List.length_append, beB_length, flat_len, List.length_cons, List.length_nil]; omega)
    rw [List.drop_zero] at h9
    have eB : [115, 112, 108, 121, 1, (tabs.length : Int)] ++ beB 2 code.length ++ code.flatMap (fun x => beB 8 (wdA x)) ++ tabs.flatMap tabB = bodyB code tabs := by
      unfold bodyB headB; simp only [List.append_assoc]
    rw [eB] at h9
    have hK := p10_2_eq C prog.meth M.n w9.1 w9.2.1 w9.2.2 (ta.2.1 : Int) M9
    have q2 : ¬ ((ta.2.1 : Int) < (ta.2.1 : Int)) := by omega
    have l19 := ldL_upto l1 h9.u
    have hm' : Okm code tabs := chkM_zero.1 hz
    have hbl := body_len hm'
    have cF := RField_C h9.o.ints (body_byt hm') (by have := h9.len; omega)
    have w3 : IntKind.wrap .u64 (fieldA (bodyB code tabs) : Int) = (fieldA (bodyB code tabs) : Int) := by
      have := fieldA_lt (bodyB code tabs); rw [wu64]; omega
    obtain ⟨Mx, nv, My, wy, cx, qx, hx⟩ := num_step h9 (v := fieldA (bodyB code tabs)) (size := 2) (by have := fieldA_lt (bodyB code tabs); omega) (by omega) (by omega) (by omega)
    have cx : C 26 [.int .u64 (fieldA (bodyB code tabs) : Int), .int .i64 2] M9 = _ := cx
    simp only [int?_int, rvs, Int.reduceBEq, Int.reduceBNe, Int.cast_ofNat_Int, l19, q2] at hK
    rw [cF, Option.bind_some] at hK
    simp only [int?_int, rvs, Int.reduceBEq, Int.reduceBNe, Int.cast_ofNat_Int, w3] at hK
    rw [cx, Option.bind_some] at hK
    simp only [int?_int, rvs, Int.reduceBEq, Int.reduceBNe, Int.cast_ofNat_Int] at hK
    rw [qx] at hK
    refine ⟨My, wy, by rw [hz]; exact c10 (hE.trans (c8.trans (cc9.trans hK))), u1.trans hx.u, hx.o, fun o ho => by have := hx.new o ho; omega⟩
  · rw [if_neg hz]
    have q0 : (chkM code tabs != 0) = true := by simp [hz]
    simp only [int?_int, rvs, Int.reduceBEq, Int.reduceBNe, Int.cast_ofNat_Int, q0] at hE
    exact ⟨M2, (none, 0, .known 0), c10 hE, u1.trans u2, OwnK.nil _ _, fun o ho => by rw [fpS_zero rfl] at ho; simp at ho⟩
end
end Go.Proofs.Ytmkncifbammfjaa.M
