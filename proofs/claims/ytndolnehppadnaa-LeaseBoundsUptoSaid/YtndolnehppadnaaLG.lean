/- LeaseBounds, joined. -/
import Derived.Test.YtndolnehppadnaaLF
set_option linter.unusedVariables false
set_option linter.unusedSimpArgs false
set_option linter.unnecessarySimpa false
set_option maxRecDepth 100000
namespace Go.Proofs.Ytndolnehppadnaa.M
open Go.Abs

theorem bounds_end {b1 : Option (Nat × Nat)} {l : Nat} {b3 : Cap} {bx A N : Nat} {ia : Option (Nat × Nat)} {ic : Cap} {xs zs : List Int} {M : Mem} (hx : M.ints .u8 b1 l b3 = some xs) (hz : M.ints .u8 ia l ic = some zs) (hbx : M.get bx = some ⟨[.int .i64 (A : Int), .int .i64 (N : Int)], .fixed⟩) (hAN : A + N ≤ l) (hl : l < 2 ^ 47)
    (hs : ∀ j, (j < A ∨ A + N ≤ j) → zs[j]? = xs[j]?) : ∀ (d j : Nat), j + d = l → p4_4 C prog.meth b1 l b3 bx ia l ic j M = some (.bool true, M) := by
  have hlx := ints_length hx
  have hlz := ints_length hz
  have hsum : IntKind.wrap .i64 ((A : Int) + (N : Int)) = ((A + N : Nat) : Int) := by rw [wrap_i64 (by omega) (by omega)]; rfl
  have e0 : M.ldI .i64 bx 0 = some (A : Int) := by simp [Mem.ldI, Mem.ld, Mem.cells, hbx, AObj.live]
  have e1 : M.ldI .i64 bx 1 = some (N : Int) := by simp [Mem.ldI, Mem.ld, Mem.cells, hbx, AObj.live]
  intro d
  induction d with
  | zero =>
    intro j hj
    have hE := p4_4_eq C prog.meth b1 l b3 bx ia l ic j M
    have h1 : ¬ ((j : Int) < (l : Int)) := by omega
    simp only [Option.bind_some, List.getElem?_cons_zero, List.getElem?_cons_succ, int?_int, AVal.bool?, AVal.ptr?, AVal.sl?, AVal.tup?, AVal.agg?, AVal.ifc?, AVal.fn?, AVal.str?, List.head?_cons, List.tail_cons, List.isEmpty_nil, cond_true, cond_false, Option.isNone_some, Option.isNone_none, Bool.not_true, Bool.not_false, decide_true, decide_false, beq_self_eq_true, bne_self_eq_false, Int.reduceBEq, Int.reduceBNe, Int.cast_ofNat_Int, h1] at hE
    exact hE
  | succ d ih =>
    intro j hj
    have hE := p4_4_eq C prog.meth b1 l b3 bx ia l ic j M
    have h0 : (0 : Int) ≤ (j : Int) := by omega
    have h1 : ((j : Int) < (l : Int)) := by omega
    have h2 : Nat.blt j l = true := Mem.blt_iff.2 (by omega)
    have hw : IntKind.wrap .i64 ((j : Int) + 1) = ((j + 1 : Nat) : Int) := by rw [wrap_i64 (by omega) (by omega)]; rfl
    obtain ⟨p, hp, hv⟩ := (ints_iff.1 hx).2 j (by omega)
    obtain ⟨q, hq, hu⟩ := (ints_iff.1 hz).2 j (by omega)
    rw [List.getElem?_eq_getElem (by omega)] at hv hu
    have hgo := ih (j + 1) (by omega)
    by_cases hA : (j : Int) < (A : Int)
    · have hsj := hs j (.inl (by omega))
      rw [List.getElem?_eq_getElem (by omega), List.getElem?_eq_getElem (by omega)] at hsj
      have he : zs[j] = xs[j] := Option.some.inj hsj
      simp only [Option.bind_some, List.getElem?_cons_zero, List.getElem?_cons_succ, int?_int, AVal.bool?, AVal.ptr?, AVal.sl?, AVal.tup?, AVal.agg?, AVal.ifc?, AVal.fn?, AVal.str?, List.head?_cons, List.tail_cons, List.isEmpty_nil, cond_true, cond_false, Option.isNone_some, Option.isNone_none, Bool.not_true, Bool.not_false, decide_true, decide_false, beq_self_eq_true, bne_self_eq_false, Int.reduceBEq, Int.reduceBNe, Int.cast_ofNat_Int, h1, e0, hA, h0, Int.toNat_natCast, h2, hp, hq, Nat.mul_one, hv, hu, he, hw] at hE
      exact hE.trans hgo
    · by_cases hB : (j : Int) ≥ ((A + N : Nat) : Int)
      · have hsj := hs j (.inr (by omega))
        rw [List.getElem?_eq_getElem (by omega), List.getElem?_eq_getElem (by omega)] at hsj
        have he : zs[j] = xs[j] := Option.some.inj hsj
        simp only [Option.bind_some, List.getElem?_cons_zero, List.getElem?_cons_succ, int?_int, AVal.bool?, AVal.ptr?, AVal.sl?, AVal.tup?, AVal.agg?, AVal.ifc?, AVal.fn?, AVal.str?, List.head?_cons, List.tail_cons, List.isEmpty_nil, cond_true, cond_false, Option.isNone_some, Option.isNone_none, Bool.not_true, Bool.not_false, decide_true, decide_false, beq_self_eq_true, bne_self_eq_false, Int.reduceBEq, Int.reduceBNe, Int.cast_ofNat_Int, h1, e0, hA, e1, hsum, hB, h0, Int.toNat_natCast, h2, hp, hq, Nat.mul_one, hv, hu, he, hw] at hE
        exact hE.trans hgo
      · simp only [Option.bind_some, List.getElem?_cons_zero, List.getElem?_cons_succ, int?_int, AVal.bool?, AVal.ptr?, AVal.sl?, AVal.tup?, AVal.agg?, AVal.ifc?, AVal.fn?, AVal.str?, List.head?_cons, List.tail_cons, List.isEmpty_nil, cond_true, cond_false, Option.isNone_some, Option.isNone_none, Bool.not_true, Bool.not_false, decide_true, decide_false, beq_self_eq_true, bne_self_eq_false, Int.reduceBEq, Int.reduceBNe, Int.cast_ofNat_Int, h1, e0, hA, e1, hsum, hB, hw] at hE
        exact hE.trans hgo
theorem bounds_loop {M0 : Mem} {b1 : Option (Nat × Nat)} {l : Nat} {b3 : Cap} {d1 : Option (Nat × Nat)} {d2 : Nat} {d3 : Cap} {bx io wo A N : Nat} {ia : Option (Nat × Nat)} {ic : Cap} {ya : Option (Nat × Nat)} {yc : Cap} {xs : List Int}
    (hx : M0.ints .u8 b1 l b3 = some xs) (hAN : A + N ≤ l) (hl : l ≤ 1048576) (hv : ArgRows M0 [.int .u8, .int .i64, .sl 1 [.int .u8]] d1 d2 d3) (hq : RoNew 1048576 Mem.empty M0) :
    ∀ (d i : Nat) (M : Mem) (zs : List Int) (ins : Bool) (at_ : Nat) (wa : Option (Nat × Nat)) (wl : Nat) (wc : Cap), i + d = 60 → BInv M0 M bx io wo A N l ia ic ya yc xs zs ins at_ wa wl wc → wl ≤ (i + 1) * 1048576 →
      ∃ M', p4_2 C prog.meth b1 l b3 d1 d2 d3 bx ia l ic ya l yc wa wl wc at_ ins i M = some (.bool true, M') := by
  have fin : ∀ (M : Mem) (zs : List Int) (ins : Bool) (at_ : Nat) (wa : Option (Nat × Nat)) (wl : Nat) (wc : Cap), BInv M0 M bx io wo A N l ia ic ya yc xs zs ins at_ wa wl wc → p4_4 C prog.meth b1 l b3 bx ia l ic 0 M = some (.bool true, M) := fun M zs ins at_ wa wl wc h =>
    bounds_end (ints_upto hx h.up) h.inn.ints h.box hAN (by omega) h.same l 0 (by omega)
  intro d
  induction d with
  | zero =>
    intro i M zs ins at_ wa wl wc hi h hwl
    have hE := p4_2_eq C prog.meth b1 l b3 d1 d2 d3 bx ia l ic ya l yc wa wl wc at_ ins i M
    have h60 : ¬ ((i : Int) < 60) := by omega
    rw [fin M zs ins at_ wa wl wc h] at hE
    simp only [h60, decide_false, cond_false] at hE
    exact ⟨M, by rw [hE]; cases decide ((i : Int) < (d2 : Int)) <;> rfl⟩
  | succ d ih =>
    intro i M zs ins at_ wa wl wc hi h hwl
    have hE := p4_2_eq C prog.meth b1 l b3 d1 d2 d3 bx ia l ic ya l yc wa wl wc at_ ins i M
    have h60 : ((i : Int) < 60) := by omega
    rw [fin M zs ins at_ wa wl wc h] at hE
    by_cases hl1 : (i : Int) < (d2 : Int)
    rotate_left
    · simp only [hl1, decide_false, cond_false] at hE
      exact ⟨M, hE⟩
    simp only [h60, hl1, decide_true, cond_true] at hE
    have hwi : IntKind.wrap .i64 ((i : Int) + 1) = ((i + 1 : Nat) : Int) := by rw [wrap_i64 (by omega) (by omega)]; rfl
    -- behind each deed
    have tail : ∀ (M : Mem) (zs : List Int) (ins : Bool) (at_ : Nat) (wa : Option (Nat × Nat)) (wl : Nat) (wc : Cap), BInv M0 M bx io wo A N l ia ic ya yc xs zs ins at_ wa wl wc → wl ≤ (i + 2) * 1048576 → ∃ M', p4_8 C prog.meth b1 l b3 d1 d2 d3 bx ia l ic ya l yc wa wl wc at_ ins i M = some (.bool true, M') := by
      intro M zs ins at_ wa wl wc h hwl
      have hE := p4_8_eq C prog.meth b1 l b3 d1 d2 d3 bx ia l ic ya l yc wa wl wc at_ ins i M
      simp only [Option.bind_some, List.getElem?_cons_zero, List.getElem?_cons_succ, int?_int, AVal.bool?, AVal.ptr?, AVal.sl?, AVal.tup?, AVal.agg?, AVal.ifc?, AVal.fn?, AVal.str?, List.head?_cons, List.tail_cons, List.isEmpty_nil, cond_true, cond_false, Option.isNone_some, Option.isNone_none, Bool.not_true, Bool.not_false, decide_true, decide_false, beq_self_eq_true, bne_self_eq_false, Int.reduceBEq, Int.reduceBNe, Int.cast_ofNat_Int, EqBytes_C h.inn.ints h.want.ints (by omega), hwi] at hE
      obtain ⟨M', q⟩ := ih (i + 1) M zs ins at_ wa wl wc (by omega) h hwl
      exact ⟨M', hE.trans q⟩
    obtain ⟨p, vs, hp, hpn, hs, hld⟩ := hv i (by omega)
    simp only [ShowsR] at hs
    obtain ⟨v0, w0, rfl, hk0, v1, w1, rfl, ha0, v2, w2, rfl, hb0, rfl⟩ := hs
    obtain ⟨ba, bl, bc, bs, rfl, hbs, hbl, hbw⟩ := hb0.ints
    have hbl2 := hb0.ints_le hq
    simp only [Shows] at hk0 ha0
    obtain ⟨kind, rfl, wk⟩ := hk0
    obtain ⟨xat, rfl, wat⟩ := ha0
    have hlb := ints_length hbs
    have l0 : M.ldI .u8 p.1 (p.2 + i * 3) = some kind := ldI_ld.2 (by simpa using hld M h.up 0 (by simp))
    have l1 : M.ldI .i64 p.1 (p.2 + (i * 3 + 1)) = some xat := ldI_ld.2 (by simpa using hld M h.up 1 (by simp))
    have l2 : M.ldL p.1 (p.2 + (i * 3 + 2)) = some (ba, bl, bc) := by
      have := hld M h.up 2 (by simp)
      simp at this
      unfold Mem.ldL; rw [this]; rfl
    have hst := st_made (M := M) (cs := [.int .u8 0, .int .i64 0, .sl none 0 (.known 0)]) (vs := [.int .u8 kind, .int .i64 xat, .sl ba bl bc]) rfl
    have u1 := upto_made M ⟨[.int .u8 0, .int .i64 0, .sl none 0 (.known 0)], .fixed⟩ ⟨[.int .u8 kind, .int .i64 xat, .sl ba bl bc], .fixed⟩
    have g1 := get_made M ⟨[.int .u8 0, .int .i64 0, .sl none 0 (.known 0)], .fixed⟩ ⟨[.int .u8 kind, .int .i64 xat, .sl ba bl bc], .fixed⟩
    generalize (M.alloc ⟨[.int .u8 0, .int .i64 0, .sl none 0 (.known 0)], .fixed⟩).put M.n ⟨[.int .u8 kind, .int .i64 xat, .sl ba bl bc], .fixed⟩ = M1 at hst u1 g1
    have hE3 := p4_3_eq C prog.meth b1 l b3 d1 d2 d3 bx ia l ic ya l yc wa wl wc at_ ins i M
    have h0 : (0 : Int) ≤ (i : Int) := by omega
    have h2 : Nat.blt i d2 = true := Mem.blt_iff.2 (by omega)
    have e0 : M1.ldI .u8 M.n 0 = some kind := ldI_ld.2 (by rw [ld_fix g1]; rfl)
    have e1 : M1.ldI .i64 M.n 1 = some xat := ldI_ld.2 (by rw [ld_fix g1]; rfl)
    have e2 : M1.ldL M.n 2 = some (ba, bl, bc) := by unfold Mem.ldL; rw [ld_fix g1]; rfl
    simp only [Option.bind_some, List.getElem?_cons_zero, List.getElem?_cons_succ, int?_int, AVal.bool?, AVal.ptr?, AVal.sl?, AVal.tup?, AVal.agg?, AVal.ifc?, AVal.fn?, AVal.str?, List.head?_cons, List.tail_cons, List.isEmpty_nil, cond_true, cond_false, Option.isNone_some, Option.isNone_none, Bool.not_true, Bool.not_false, decide_true, decide_false, beq_self_eq_true, bne_self_eq_false, Int.reduceBEq, Int.reduceBNe, Int.cast_ofNat_Int, h0, Int.toNat_natCast, h2, hp, Nat.add_assoc, Nat.reduceAdd, l0, l1, l2, hst, e0] at hE3
    have h1 := h.upto u1
    have hbs1 := ints_upto hbs h1.up
    have hn0 := h.up.1
    have hlo := h1.lo
    have b0 : M1.ldI .i64 bx 0 = some (A : Int) := ldI_ld.2 (by rw [ld_fix h1.box]; rfl)
    have b1' : M1.ldI .i64 bx 1 = some (N : Int) := ldI_ld.2 (by rw [ld_fix h1.box]; rfl)
    have hsub : at_ ≤ A + N → A ≤ at_ → IntKind.wrap .i64 ((N : Int) - IntKind.wrap .i64 ((at_ : Int) - (A : Int))) = ((A + N - at_ : Nat) : Int) := fun g1 g2 => by
      rw [wrap_i64 (n := (at_ : Int) - (A : Int)) (by omega) (by omega), wrap_i64 (by omega) (by omega)]; omega
    by_cases k2 : kind = 2
    · have : (kind == 2) = true := by simp [k2]
      rw [this, cond_true, p4_5_eq] at hE3
      obtain ⟨M2, zs2, q1, q2⟩ := bounds_write (b1 := b1) (b2 := l) (b3 := b3) (d1 := d1) (d2 := d2) (d3 := d3) (i0 := i) (dx := M.n) hAN (by omega) (by omega) (by omega) hbs hn0 bl 0 M1 zs (by omega) h1 g1
      obtain ⟨M', q⟩ := tail M2 zs2 ins at_ wa wl wc q2 (Nat.le_trans hwl (Nat.mul_le_mul_right _ (Nat.le_succ _)))
      exact ⟨M', hE.trans (hE3.trans (q1.trans q))⟩
    have k2' : (kind == 2) = false := by simpa using k2
    rw [k2', cond_false] at hE3
    by_cases k3 : kind = 3
    · have : (kind == 3) = true := by simp [k3]
      rw [this, cond_true, p4_6_eq] at hE3
      have hw1 : IntKind.wrap .i64 ((wl : Int) + 1) = ((wl + 1 : Nat) : Int) := by rw [wrap_i64 (by omega) (by omega)]; rfl
      obtain ⟨r, hr, cr⟩ := Bring_C (i := xat) (n := ((wl + 1 : Nat) : Int)) (M := Mem.empty) (by omega) (by omega)
      obtain ⟨c1, c2⟩ := h1.cut (r := r) (by omega)
      cases ins with
      | true =>
        obtain ⟨a', l', c', q1, q2, q3⟩ := c1 rfl
        have hw2 : IntKind.wrap .i64 ((at_ : Int) + (r : Int)) = ((at_ + r : Nat) : Int) := by rw [wrap_i64 (by omega) (by omega)]; rfl
        simp only [Option.bind_some, List.getElem?_cons_zero, List.getElem?_cons_succ, int?_int, AVal.bool?, AVal.ptr?, AVal.sl?, AVal.tup?, AVal.agg?, AVal.ifc?, AVal.fn?, AVal.str?, List.head?_cons, List.tail_cons, List.isEmpty_nil, cond_true, cond_false, Option.isNone_some, Option.isNone_none, Bool.not_true, Bool.not_false, decide_true, decide_false, beq_self_eq_true, bne_self_eq_false, Int.reduceBEq, Int.reduceBNe, Int.cast_ofNat_Int, e1, hw1, cr, b0, b1', hsub hlo.2 hlo.1, q1, hw2] at hE3
        obtain ⟨M', q⟩ := tail M1 zs true (at_ + r) a' l' c' q3 (by omega)
        exact ⟨M', hE.trans (hE3.trans q)⟩
      | false =>
        obtain ⟨a', l', c', q1, q2, q3⟩ := c2 rfl
        simp only [Option.bind_some, List.getElem?_cons_zero, List.getElem?_cons_succ, int?_int, AVal.bool?, AVal.ptr?, AVal.sl?, AVal.tup?, AVal.agg?, AVal.ifc?, AVal.fn?, AVal.str?, List.head?_cons, List.tail_cons, List.isEmpty_nil, cond_true, cond_false, Option.isNone_some, Option.isNone_none, Bool.not_true, Bool.not_false, decide_true, decide_false, beq_self_eq_true, bne_self_eq_false, Int.reduceBEq, Int.reduceBNe, Int.cast_ofNat_Int, e1, hw1, cr, q1] at hE3
        obtain ⟨M', q⟩ := tail M1 zs false at_ a' l' c' q3 (by omega)
        exact ⟨M', hE.trans (hE3.trans q)⟩
    have k3' : (kind == 3) = false := by simpa using k3
    rw [k3', cond_false] at hE3
    by_cases k4 : kind = 4
    rotate_left
    · have k4' : (kind == 4) = false := by simpa using k4
      rw [k4', cond_false] at hE3
      obtain ⟨M', q⟩ := tail M1 zs ins at_ wa wl wc h1 (Nat.le_trans hwl (Nat.mul_le_mul_right _ (Nat.le_succ _)))
      exact ⟨M', hE.trans (hE3.trans q)⟩
    have : (kind == 4) = true := by simp [k4]
    rw [this, cond_true, p4_7_eq] at hE3
    cases ins with
    | false =>
      obtain ⟨a', c', M2, q1, q2, q3⟩ := h1.app_out hbs1 (by omega)
      have e3 : M2.ldL M.n 2 = some (ba, bl, bc) := by unfold Mem.ldL; rw [ld_same (q3 _ (Mem.get_lt g1) ⟨_, _, g1, by simp⟩), ld_fix g1]; rfl
      simp only [Option.bind_some, List.getElem?_cons_zero, List.getElem?_cons_succ, int?_int, AVal.bool?, AVal.ptr?, AVal.sl?, AVal.tup?, AVal.agg?, AVal.ifc?, AVal.fn?, AVal.str?, List.head?_cons, List.tail_cons, List.isEmpty_nil, cond_true, cond_false, Option.isNone_some, Option.isNone_none, Bool.not_true, Bool.not_false, decide_true, decide_false, beq_self_eq_true, bne_self_eq_false, Int.reduceBEq, Int.reduceBNe, Int.cast_ofNat_Int, e2, q1, e3] at hE3
      obtain ⟨M', q⟩ := tail M2 zs false at_ a' (wl + bl) c' q2 (by omega)
      refine ⟨M', hE.trans (hE3.trans ?_)⟩
      cases decide ((bl : Int) > 0) <;> exact q
    | true =>
      have hw3 : IntKind.wrap .i64 ((wl : Int) + (bl : Int)) = ((wl + bl : Nat) : Int) := by rw [wrap_i64 (by omega) (by omega)]; rfl
      by_cases hfit : wl + bl ≤ A + N - at_
      · have hf : (((wl + bl : Nat) : Int) ≤ ((A + N - at_ : Nat) : Int)) := by omega
        by_cases hb0 : 0 < bl
        · obtain ⟨M2, q1, q2, q3, rfl, rfl, rfl, rfl, q4, q5, q6, q7, rfl, q8⟩ := h1.app_in hAN hbs1 hb0 hfit
          have hne := h1.ne
          have hzl := h1.inn.1
          have g2 : M2.get M.n = some ⟨[.int .u8 kind, .int .i64 xat, .sl ba bl bc], .fixed⟩ := (q7 M.n (fun e => by
            have := h.ne.2.2.2.1; omega)).trans g1
          have e3 : M2.ldL M.n 2 = some (ba, bl, bc) := by unfold Mem.ldL; rw [ld_fix g2]; rfl
          simp only [Option.bind_some, List.getElem?_cons_zero, List.getElem?_cons_succ, int?_int, AVal.bool?, AVal.ptr?, AVal.sl?, AVal.tup?, AVal.agg?, AVal.ifc?, AVal.fn?, AVal.str?, List.head?_cons, List.tail_cons, List.isEmpty_nil, cond_true, cond_false, Option.isNone_some, Option.isNone_none, Bool.not_true, Bool.not_false, decide_true, decide_false, beq_self_eq_true, bne_self_eq_false, Int.reduceBEq, Int.reduceBNe, Int.cast_ofNat_Int, e2, b0, b1', q1, hw3, hsub hlo.2 hlo.1, hf] at hE3
          rw [p4_10_eq] at hE3
          have hup2 : M0.Upto M2 := ⟨by rw [q2]; exact h1.up.1, fun q hq => by rw [q7 q (by omega), h1.up.2 q hq]⟩
          have hz0 : zs = zs.take (at_ + wl) ++ bs.take 0 ++ zs.drop (at_ + wl + 0) := by simp
          have hgw := q4
          rw [hz0] at hgw
          obtain ⟨M3, t1, t2, t3, t4⟩ := bounds_copy (b1 := b1) (b2 := l) (b3 := b3) (d1 := d1) (d2 := d2) (d3 := d3) (bx := bx) (ia := some (io, 0)) (ic := .unk 0) (ins := true) (wa := wa) (wl := wl + bl) (wc := .known (A + N - at_)) (i0 := i) (at_ := at_) (n := wl) hzl (by omega) (by omega) hbs q6 bl 0 M2 (by omega) hup2 hgw g2
          have hov := bytes_over zs bs (at_ + wl) (by omega)
          rw [hlb] at hov
          rw [hov] at q3
          have hlen2 : (zs.take (at_ + wl) ++ bs ++ zs.drop (at_ + wl + bl)).length = l := by simp; omega
          have h3 : BInv M0 M3 bx io wo A N l (some (io, 0)) (.unk 0) (some (wo, 0)) (.unk 0) xs (zs.take (at_ + wl) ++ bs ++ zs.drop (at_ + wl + bl)) true at_ wa (wl + bl) (.known (A + N - at_)) := by
            refine ⟨⟨by rw [t2]; exact hup2.1, fun q hq => by rw [t4.2 q (by rw [q2]; have := h1.up.1; omega) (by omega), hup2.2 q hq]⟩, ?_, h1.bxl, ⟨hlen2, .inr ⟨io, rfl, rfl, ?_⟩⟩, ⟨hlen2, .inr ⟨wo, rfl, rfl, t3⟩⟩, h1.hio, h1.hwo, ⟨hne.1, hne.2.1, hne.2.2.1, by rw [t2, q2]; exact hne.2.2.2.1, by rw [t2, q2]; exact hne.2.2.2.2⟩, fun j hj => ?_, .inn (by omega) q8, hlo⟩
            · rw [t4.2 bx (by rw [q2]; exact Mem.get_lt h1.box) (fun e => hne.2.2.1 e.symm), q7 bx (fun e => hne.2.1 e.symm)]; exact h1.box
            · rw [t4.2 io (by rw [q2]; exact hne.2.2.2.1) hne.1]; exact q3
            · rw [← h1.same j hj]
              have ht : (zs.take (at_ + wl)).length = at_ + wl := by simp; omega
              rcases hj with hj | hj
              · rw [List.append_assoc, List.getElem?_append_left (by omega), List.getElem?_take, if_pos (by omega)]
              · rw [List.getElem?_append_right (by rw [List.length_append]; omega), List.getElem?_drop, List.length_append, ht, hlb, show at_ + wl + bl + (j - (at_ + wl + bl)) = j from by omega]
          obtain ⟨M', q⟩ := tail M3 _ true at_ wa (wl + bl) _ h3 (by omega)
          exact ⟨M', hE.trans (hE3.trans (t1.trans q))⟩
        · obtain rfl : bl = 0 := by omega
          have hwc : wc = .known (A + N - at_) := by cases h1.held with | inn _ _ => rfl
          subst hwc
          have q1 := fun K => appK_none (β := AVal × Mem) (K := K) (M := M1) (s := 1) (bytes := 1) (a := wa) (l := wl) (n := A + N - at_) (a' := ba) (c' := bc) (by omega)
          have hw30 : IntKind.wrap .i64 ((wl : Int) + 0) = (wl : Int) := by rw [Int.add_zero, wrap_i64 (by omega) (by omega)]
          have hf0 : ((wl : Int) ≤ ((A + N - at_ : Nat) : Int)) := by omega
          simp only [Option.bind_some, List.getElem?_cons_zero, List.getElem?_cons_succ, int?_int, AVal.bool?, AVal.ptr?, AVal.sl?, AVal.tup?, AVal.agg?, AVal.ifc?, AVal.fn?, AVal.str?, List.head?_cons, List.tail_cons, List.isEmpty_nil, cond_true, cond_false, Option.isNone_some, Option.isNone_none, Bool.not_true, Bool.not_false, decide_true, decide_false, beq_self_eq_true, bne_self_eq_false, Int.reduceBEq, Int.reduceBNe, Int.cast_ofNat_Int, e2, b0, b1', q1, hw30, hsub hlo.2 hlo.1, hf0] at hE3
          rw [p4_10_eq] at hE3
          have hE11 := p4_11_eq C prog.meth b1 l b3 d1 d2 d3 bx ia l ic ya l yc wa wl (.known (A + N - at_)) at_ true i M.n wl 0 M1
          have hnl : ¬ ((0 : Int) < ((0 : Nat) : Int)) := by omega
          simp only [Option.bind_some, List.getElem?_cons_zero, List.getElem?_cons_succ, int?_int, AVal.bool?, AVal.ptr?, AVal.sl?, AVal.tup?, AVal.agg?, AVal.ifc?, AVal.fn?, AVal.str?, List.head?_cons, List.tail_cons, List.isEmpty_nil, cond_true, cond_false, Option.isNone_some, Option.isNone_none, Bool.not_true, Bool.not_false, decide_true, decide_false, beq_self_eq_true, bne_self_eq_false, Int.reduceBEq, Int.reduceBNe, Int.cast_ofNat_Int, e2, hnl, Int.lt_irrefl] at hE11
          obtain ⟨M', q⟩ := tail M1 zs true at_ wa wl _ h1 (Nat.le_trans hwl (Nat.mul_le_mul_right _ (Nat.le_succ _)))
          exact ⟨M', hE.trans (hE3.trans (hE11.trans q))⟩
      · have hf : ¬ (((wl + bl : Nat) : Int) ≤ ((A + N - at_ : Nat) : Int)) := by omega
        have hb0 : 0 < bl := by
          cases h1.held with | inn g _ => omega
        have hwc : wc = .known (A + N - at_) := by cases h1.held with | inn _ _ => rfl
        subst hwc
        have hwx : ∃ ws, M1.raws 1 wa wl (.known (A + N - at_)) = some ws := by
          by_cases hw0 : wl = 0
          · subst hw0; exact ⟨[], rfl⟩
          · cases h1.held with
            | inn g1' g2' =>
              obtain rfl := g2' (by omega)
              obtain ⟨_, _, gi, _⟩ := h1.inn.obj (by omega) h1.hio
              have hzl := h1.inn.1
              exact ⟨_, ints_raws.1 (ints_part (i := at_) (l := wl) (c := .known (A + N - at_)) gi (by simp) rfl (by omega))⟩
        obtain ⟨ws, hws⟩ := hwx
        have hwsl := raws_length hws
        have q1 := fun K => appK_more (β := AVal × Mem) (K := K) (bytes := 1) hws (ints_raws.1 hbs1) (by omega) (by omega)
        have u2 := Mem.Upto.alloc M1 ⟨ws ++ bs.map (.int .u8), .grow 1⟩
        have g2 := u2.get g1
        have e3 : (M1.alloc ⟨ws ++ bs.map (.int .u8), .grow 1⟩).ldL M.n 2 = some (ba, bl, bc) := by unfold Mem.ldL; rw [ld_fix g2]; rfl
        have hbp : (bl : Int) > 0 := by omega
        simp only [Option.bind_some, List.getElem?_cons_zero, List.getElem?_cons_succ, int?_int, AVal.bool?, AVal.ptr?, AVal.sl?, AVal.tup?, AVal.agg?, AVal.ifc?, AVal.fn?, AVal.str?, List.head?_cons, List.tail_cons, List.isEmpty_nil, cond_true, cond_false, Option.isNone_some, Option.isNone_none, Bool.not_true, Bool.not_false, decide_true, decide_false, beq_self_eq_true, bne_self_eq_false, Int.reduceBEq, Int.reduceBNe, Int.cast_ofNat_Int, e2, b0, b1', q1, hw3, hsub hlo.2 hlo.1, hf, e3, hbp] at hE3
        have h2' := h1.upto u2
        have hne := h1.ne
        have hbxl := Mem.get_lt h1.box
        have h3 : BInv M0 (M1.alloc ⟨ws ++ bs.map (.int .u8), .grow 1⟩) bx io wo A N l ia ic ya yc xs zs false at_ (some (M1.n, 0)) (wl + bl) (.unk 0) :=
          ⟨h2'.up, h2'.box, h2'.bxl, h2'.inn, h2'.want, h2'.hio, h2'.hwo, h2'.ne, h2'.same, .out _ _ _ (get_alloc_self _ _) (by rw [List.length_append, List.length_map, hwsl, hlb]; omega) ⟨h1.up.1, by omega, by omega, by omega⟩, h2'.lo⟩
        obtain ⟨M', q⟩ := tail _ zs false at_ _ (wl + bl) _ h3 (by omega)
        exact ⟨M', hE.trans (hE3.trans q)⟩
theorem LeaseBounds_C {M0 : Mem} {b1 : Option (Nat × Nat)} {l : Nat} {b3 : Cap} {x y : Int} {d1 : Option (Nat × Nat)} {d2 : Nat} {d3 : Cap} {xs : List Int}
    (hx : M0.ints .u8 b1 l b3 = some xs) (hl : l ≤ 1048576) (hv : ArgRows M0 [.int .u8, .int .i64, .sl 1 [.int .u8]] d1 d2 d3) (hq : RoNew 1048576 Mem.empty M0) :
    ∃ M', C 4 [.sl b1 l b3, .agg [.int .i64 x, .int .i64 y], .sl d1 d2 d3] M0 = some (.bool true, M') := by
  obtain ⟨Ma, hawake⟩ := awake02_C
  have hE := p4_0_eq C prog.meth b1 l b3 x y d1 d2 d3 M0
  have u1 := Mem.Upto.alloc M0 ⟨[.int .i64 x, .int .i64 y], .fixed⟩
  have g1 := get_alloc_self M0 ⟨[.int .i64 x, .int .i64 y], .fixed⟩
  generalize M0.alloc ⟨[.int .i64 x, .int .i64 y], .fixed⟩ = M1 at hE u1 g1
  have hw1 : IntKind.wrap .i64 ((l : Int) + 1) = ((l + 1 : Nat) : Int) := by rw [wrap_i64 (by omega) (by omega)]; rfl
  obtain ⟨A, hA, cA⟩ := Bring_C (i := x) (n := ((l + 1 : Nat) : Int)) (M := Mem.empty) (by omega) (by omega)
  have hl1 := Mem.get_lt g1
  have hst2 := st_fix (i := 0) (vs := [.int .i64 (A : Int)]) g1 (by simp)
  have hov2 : overL [.int .i64 x, .int .i64 y] 0 [.int .i64 (A : Int)] = [.int .i64 (A : Int), .int .i64 y] := rfl
  rw [hov2] at hst2
  have g2 : (M1.put M0.n ⟨[.int .i64 (A : Int), .int .i64 y], .fixed⟩).get M0.n = some ⟨[.int .i64 (A : Int), .int .i64 y], .fixed⟩ := get_put_self hl1
  have u2 : M0.Upto (M1.put M0.n ⟨[.int .i64 (A : Int), .int .i64 y], .fixed⟩) := ⟨u1.1, fun q hq => by rw [get_put_ne (by omega), u1.2 q hq]⟩
  generalize M1.put M0.n ⟨[.int .i64 (A : Int), .int .i64 y], .fixed⟩ = M2 at hst2 g2 u2
  have hw2 : IntKind.wrap .i64 (IntKind.wrap .i64 ((l : Int) - (A : Int)) + 1) = ((l - A + 1 : Nat) : Int) := by rw [wrap_i64 (n := (l : Int) - (A : Int)) (by omega) (by omega), wrap_i64 (by omega) (by omega)]; omega
  obtain ⟨N, hN, cN⟩ := Bring_C (i := y) (n := ((l - A + 1 : Nat) : Int)) (M := Mem.empty) (by omega) (by omega)
  have hl2 := Mem.get_lt g2
  have hst3 := st_fix (i := 1) (vs := [.int .i64 (N : Int)]) g2 (by simp)
  have hov3 : overL [.int .i64 (A : Int), .int .i64 y] 1 [.int .i64 (N : Int)] = [.int .i64 (A : Int), .int .i64 (N : Int)] := rfl
  rw [hov3] at hst3
  have g3 : (M2.put M0.n ⟨[.int .i64 (A : Int), .int .i64 (N : Int)], .fixed⟩).get M0.n = some ⟨[.int .i64 (A : Int), .int .i64 (N : Int)], .fixed⟩ := get_put_self hl2
  have u3 : M0.Upto (M2.put M0.n ⟨[.int .i64 (A : Int), .int .i64 (N : Int)], .fixed⟩) := ⟨u2.1, fun q hq => by rw [get_put_ne (by omega), u2.2 q hq]⟩
  generalize M2.put M0.n ⟨[.int .i64 (A : Int), .int .i64 (N : Int)], .fixed⟩ = M3 at hst3 g3 u3
  have i1 : M1.ldI .i64 M0.n 0 = some x := ldI_ld.2 (by rw [ld_fix g1]; rfl)
  have i2 : M2.ldI .i64 M0.n 1 = some y := ldI_ld.2 (by rw [ld_fix g2]; rfl)
  have i3 : M2.ldI .i64 M0.n 0 = some (A : Int) := ldI_ld.2 (by rw [ld_fix g2]; rfl)
  obtain ⟨M4, ia, ic, e4, u4, in4, f4⟩ := CopyBytes_In (ints_upto hx u3) (by omega)
  obtain ⟨M5, ya, yc, e5, u5, in5, f5⟩ := CopyBytes_In (ints_upto hx (u3.trans u4)) (by omega)
  have g5 := u5.get (u4.get g3)
  have i4 : M5.ldI .i64 M0.n 0 = some (A : Int) := ldI_ld.2 (by rw [ld_fix g5]; rfl)
  have i5 : M5.ldI .i64 M0.n 1 = some (N : Int) := ldI_ld.2 (by rw [ld_fix g5]; rfl)
  have in4' := in4.same (fun o ho => u5.2 o (in4.lt o ho))
  have hL := Lend_C (at_ := A) (n := N) in4'.room (by omega) (by omega) (by omega)
  have hw : within (A : Int) (N : Int) l = true := (within_iff (by omega)).2 ⟨by omega, by omega, by omega⟩
  rw [if_pos hw] at hL
  simp only [Int.toNat_natCast] at hL
  have u6 := Mem.Upto.alloc M5 ⟨[.int .i64 (A : Int), .int .i64 (N : Int)], .fixed⟩
  have hn56 : M5.n < (M5.alloc ⟨[.int .i64 (A : Int), .int .i64 (N : Int)], .fixed⟩).n := by simp
  generalize M5.alloc ⟨[.int .i64 (A : Int), .int .i64 (N : Int)], .fixed⟩ = M6 at hL u6 hn56
  have g6 := u6.get g5
  have i6 : M6.ldI .i64 M0.n 1 = some (N : Int) := ldI_ld.2 (by rw [ld_fix g6]; rfl)
  have i7 : M6.ldI .i64 M0.n 0 = some (A : Int) := ldI_ld.2 (by rw [ld_fix g6]; rfl)
  simp only [Option.bind_some, List.getElem?_cons_zero, List.getElem?_cons_succ, int?_int, AVal.bool?, AVal.ptr?, AVal.sl?, AVal.tup?, AVal.agg?, AVal.ifc?, AVal.fn?, AVal.str?, List.head?_cons, List.tail_cons, List.isEmpty_nil, cond_true, cond_false, Option.isNone_some, Option.isNone_none, Bool.not_true, Bool.not_false, decide_true, decide_false, beq_self_eq_true, bne_self_eq_false, Int.reduceBEq, Int.reduceBNe, Int.cast_ofNat_Int, hawake, i1, hw1, cA, hst2, i2, i3, hw2, cN, hst3, e4, e5, i4, i5, hL, i6] at hE
  rw [p4_1_eq] at hE
  simp only [Option.bind_some, List.getElem?_cons_zero, List.getElem?_cons_succ, int?_int, AVal.bool?, AVal.ptr?, AVal.sl?, AVal.tup?, AVal.agg?, AVal.ifc?, AVal.fn?, AVal.str?, List.head?_cons, List.tail_cons, List.isEmpty_nil, cond_true, cond_false, Option.isNone_some, Option.isNone_none, Bool.not_true, Bool.not_false, decide_true, decide_false, beq_self_eq_true, bne_self_eq_false, Int.reduceBEq, Int.reduceBNe, Int.cast_ofNat_Int, i7] at hE
  have up6 := ((u3.trans u4).trans u5).trans u6
  have in6 := in4'.same (fun o ho => u6.2 o (in4'.lt o ho))
  have in7 := in5.same (fun o ho => u6.2 o (in5.lt o ho))
  have n3 := u3.1
  have n4 := u4.1
  have n5 := u5.1
  have n6 := u6.1
  have hl6 := Mem.get_lt g6
  have hl3 := Mem.get_lt g3
  -- the objects' numbers, if there are any
  have hobj : ∃ io wo, (∀ o ∈ fpOf ia, o = io ∧ M0.n ≤ o) ∧ (∀ o ∈ fpOf ya, o = wo ∧ M0.n ≤ o) ∧ (0 < l → ia = some (io, 0)) ∧ io ≠ wo ∧ io ≠ M0.n ∧ wo ≠ M0.n ∧ io < M6.n + 2 ∧ wo < M6.n + 2 ∧ (0 < l → io < M6.n ∧ wo < M6.n) := by
    obtain ⟨e0, ⟨rfl, e1, e2⟩ | ⟨o, rfl, e1, e2⟩⟩ := in4
    · obtain ⟨e0', ⟨rfl, _, _⟩ | ⟨o', rfl, _, e2'⟩⟩ := in5
      · exact ⟨M6.n, M6.n + 1, by simp [fpOf], by simp [fpOf], by omega, by omega, by omega, by omega, by omega, by omega, by omega⟩
      · have := f5 o' (by simp [fpOf])
        have := Mem.get_lt e2'
        exact ⟨M6.n, o', by simp [fpOf], fun q hq => by simp [fpOf] at hq; omega, by omega, by omega, by omega, by omega, by omega, by omega, by omega⟩
    · have h1 := f4 o (by simp [fpOf])
      have h2 := Mem.get_lt e2
      obtain ⟨e0', ⟨rfl, _, e3⟩ | ⟨o', rfl, _, e2'⟩⟩ := in5
      · exact ⟨o, M6.n, fun q hq => by simp [fpOf] at hq; omega, by simp [fpOf], by omega, by omega, by omega, by omega, by omega, by omega, by omega⟩
      · have h3 := f5 o' (by simp [fpOf])
        have h4 := Mem.get_lt e2'
        exact ⟨o, o', fun q hq => by simp [fpOf] at hq; omega, fun q hq => by simp [fpOf] at hq; omega, fun _ => rfl, by omega, by omega, by omega, by omega, by omega, fun _ => ⟨by omega, by omega⟩⟩
  obtain ⟨io, wo, k1, k2, k3, k4, k5, k6, k7, k8, k9⟩ := hobj
  have hnil : l = 0 → ia = none ∧ ya = none := fun h0 => by
    have a1 := CopyBytes_C (ints_upto hx u3) (by omega)
    have a2 := CopyBytes_C (ints_upto hx (u3.trans u4)) (by omega)
    rw [if_pos h0, e4] at a1
    rw [if_pos h0, e5] at a2
    simp at a1 a2
    exact ⟨a1.1.1, a2.1.1⟩
  by_cases hM0 : M0.n = 0
  · have hd2 : d2 = 0 := by
      by_cases h0 : d2 = 0
      · exact h0
      · obtain ⟨p, _, _, hp, _⟩ := hv 0 (by omega)
        omega
    have hl0 : l = 0 := by
      by_cases h0 : 0 < l
      · obtain ⟨p, hp, hvv⟩ := (ints_iff.1 hx).2 0 h0
        rw [List.getElem?_eq_getElem (by rw [ints_length hx]; exact h0)] at hvv
        have := ld_lt (ldI_ld.1 hvv)
        omega
      · omega
    subst hd2 hl0
    have hE2 := p4_2_eq C prog.meth b1 0 b3 d1 0 d3 M0.n ia 0 ic ya 0 yc (cond (Nat.beq (A + N) A) ia (adv ia (A * 1))) N (.known N) A true 0 M6
    have hE4 := p4_4_eq C prog.meth b1 0 b3 M0.n ia 0 ic 0 M6
    simp only [Option.bind_some, List.getElem?_cons_zero, List.getElem?_cons_succ, int?_int, AVal.bool?, AVal.ptr?, AVal.sl?, AVal.tup?, AVal.agg?, AVal.ifc?, AVal.fn?, AVal.str?, List.head?_cons, List.tail_cons, List.isEmpty_nil, cond_true, cond_false, Option.isNone_some, Option.isNone_none, Bool.not_true, Bool.not_false, decide_true, decide_false, beq_self_eq_true, bne_self_eq_false, Int.reduceBEq, Int.reduceBNe, Int.cast_ofNat_Int, Int.lt_irrefl] at hE2 hE4
    exact ⟨M6, c4 (hE.trans (hE2.trans hE4))⟩
  have pad : ∃ io wo, (∀ o ∈ fpOf ia, o = io ∧ M0.n ≤ o) ∧ (∀ o ∈ fpOf ya, o = wo ∧ M0.n ≤ o) ∧ (0 < l → ia = some (io, 0)) ∧ io ≠ wo ∧ io ≠ M0.n ∧ wo ≠ M0.n ∧ io < M6.n ∧ wo < M6.n := by
    by_cases h0 : 0 < l
    · exact ⟨io, wo, k1, k2, k3, k4, k5, k6, k9 h0⟩
    · obtain ⟨rfl, rfl⟩ := hnil (by omega)
      exact ⟨0, M5.n, by simp [fpOf], by simp [fpOf], by omega, by omega, by omega, by omega, by omega, hn56⟩
  obtain ⟨io, wo, k1, k2, k3, k4, k5, k6, k7, k8⟩ := pad
  have hB : BInv M0 M6 M0.n io wo A N l ia ic ya yc xs xs true A (cond (Nat.beq (A + N) A) ia (adv ia (A * 1))) N (.known N) := by
    refine ⟨up6, g6, Nat.le_refl _, in6, in7, k1, k2, ⟨k4, k5, k6, k7, k8⟩, fun j _ => rfl, ?_, by omega⟩
    have e : N = A + N - A := by omega
    have := Held.inn (M := M6) (ok := fun q => M0.n ≤ q ∧ q ≠ io ∧ q ≠ wo ∧ q ≠ M0.n) (io := io) (e := A + N) (at_ := A) (wl := N) (wa := cond (Nat.beq (A + N) A) ia (adv ia (A * 1))) (Nat.le_refl _) (fun h0 => by
      rw [Go.Abs.beq_false (by omega), cond_false, k3 (by omega)]
      simp [adv])
    rwa [← e] at this
  obtain ⟨M', q⟩ := bounds_loop (b1 := b1) (b3 := b3) (d1 := d1) (d2 := d2) (d3 := d3) hx (by omega) hl hv hq 60 0 M6 xs true A _ N _ (by omega) hB (by omega)
  exact ⟨M', c4 (hE.trans q)⟩
theorem LeaseBounds_law : ∀ avs M, M.Whole → okL M.n avs → ShowsArgs M [(false, [.sl 1 [.int .u8]]), (true, [.int .i64, .int .i64]), (false, [.sl 40 [.int .u8, .int .i64, .sl 1 [.int .u8]]])] avs → (∀ L, L = 1048576 → RoNew L Mem.empty M) → ∃ M', C 4 avs M = some (.bool true, M') := by
  intro avs M hM hok h hq
  simp only [ShowsArgs, ShowsArg] at h
  obtain ⟨v, _, rfl, ⟨t, ht, hv⟩, w, _, rfl, ⟨ws, rfl, hw⟩, z, _, rfl, ⟨t', ht', hz⟩, rfl⟩ := h
  obtain rfl : t = .sl 1 [.int .u8] := by simpa using ht.symm
  obtain rfl : t' = .sl 40 [.int .u8, .int .i64, .sl 1 [.int .u8]] := by simpa using ht'.symm
  obtain ⟨a, l, c, xs, rfl, hx, hl, hwf⟩ := hv.ints
  have hle := hv.ints_le (hq _ rfl)
  simp only [ShowsR, Shows] at hw
  obtain ⟨v1, w1, rfl, ⟨x, rfl, wx⟩, v2, w2, rfl, ⟨y, rfl, wy⟩, rfl⟩ := hw
  obtain ⟨a1, l1, c1, rfl, hl1⟩ := hz.form
  exact LeaseBounds_C hx hle (fun i hi => hz.row hi) (hq _ rfl)
end Go.Proofs.Ytndolnehppadnaa.M
