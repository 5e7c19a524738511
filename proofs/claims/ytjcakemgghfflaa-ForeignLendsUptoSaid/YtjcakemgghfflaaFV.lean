/- ForeignLends: the document's Lend. -/
import Derived.Test.YtjcakemgghfflaaFU
set_option linter.unusedVariables false
set_option linter.unusedSimpArgs false
set_option linter.unnecessarySimpa false
set_option maxRecDepth 100000
namespace Go.Proofs.Ytjcakemgghfflaa.M
open Go.Abs Go.RowKit

def wrS : List Int → Nat → List Int → List Int
  | B, _, [] => B
  | B, i, y :: ys => wrS (B.set i y) (i + 1) ys
theorem wrS_eq : ∀ (ys B : List Int) (i : Nat), i + ys.length ≤ B.length → wrS B i ys = B.take i ++ (ys ++ B.drop (i + ys.length))
  | [], B, i, h => by simp [wrS]
  | y :: ys, B, i, h => by
    simp only [List.length_cons] at h
    rw [wrS, wrS_eq ys (B.set i y) (i + 1) (by simp; omega)]
    apply List.ext_getElem?
    intro j
    by_cases h1 : j < i
    · rw [List.getElem?_append_left (by simp; omega), List.getElem?_append_left (by simp; omega), List.getElem?_take, List.getElem?_take, if_pos (by omega), if_pos h1, List.getElem?_set, if_neg (by omega)]
    · by_cases h2 : j = i
      · subst h2
        rw [List.getElem?_append_left (by simp; omega), List.getElem?_append_right (by simp; omega), List.getElem?_take, if_pos (by omega), List.getElem?_set, if_pos rfl, if_pos (by omega), List.length_take, Nat.min_eq_left (by omega), Nat.sub_self]
        rfl
      · have t1 : ((B.set i y).take (i + 1)).length = i + 1 := by simp; omega
        have t2 : (B.take i).length = i := by simp; omega
        have lhs : ((B.set i y).take (i + 1) ++ (ys ++ (B.set i y).drop (i + 1 + ys.length)))[j]? = (ys ++ (B.set i y).drop (i + 1 + ys.length))[j - (i + 1)]? := by
          rw [List.getElem?_append_right (by omega), t1]
        have rhs : (B.take i ++ (y :: ys ++ B.drop (i + (y :: ys).length)))[j]? = (ys ++ B.drop (i + (y :: ys).length))[j - (i + 1)]? := by
          rw [List.getElem?_append_right (by omega), t2, show j - i = (j - (i + 1)) + 1 by omega, List.cons_append, List.getElem?_cons_succ]
        rw [lhs, rhs, List.length_cons]
        by_cases h3 : j - (i + 1) < ys.length
        · rw [List.getElem?_append_left h3, List.getElem?_append_left h3]
        · rw [List.getElem?_append_right (by omega), List.getElem?_append_right (by omega), List.getElem?_drop, List.getElem?_drop, List.getElem?_set, if_neg (by omega)]
          congr 1; omega
section
variable {M0 M M' : Mem} {role role' : Nat → Rj} {hs : List Nat} {cur : List (Option Nat)} {gs : List Gp} {ds : List Dt} {i h g : Nat} {x : Gp} {d : Dt}
theorem BkS.sub {kl kh : IntKind} {v : SlV} {xs : List Int} (h : BkS M v xs) (hz : v.2.1 = 0 → v.2.2 = .known 0) {i n : Nat} (hi : i + n ≤ v.2.1) : ∃ a2 c2, (∀ {β : Type} (K : Option (Nat × Nat) → Nat → Cap → Option β), slcK false 1 v.1 v.2.1 v.2.2 M (some (.int kl (i : Int))) (some (.int kh ((i + n : Nat) : Int))) none K = K a2 n c2) ∧ M.ints .u8 a2 n c2 = some ((xs.drop i).take n) := by
  have hb : M.ints .u8 v.1 v.2.1 v.2.2 = some xs := h.bytes
  have hl := h.len
  by_cases h0 : v.2.1 = 0
  · obtain rfl : i = 0 := by omega
    obtain rfl : n = 0 := by omega
    rw [hz h0]
    exact ⟨_, _, fun K => slcK_known (Nat.le_refl _) (Nat.le_refl _), by simp; rfl⟩
  · obtain ⟨o, cs, k, e1, e2, e3, e4, e5⟩ := h.ex (by omega)
    rcases e5 with ⟨e, rfl⟩ | ⟨m, e, hm, rfl⟩
    · exact PS.sub ⟨hb, .inr ⟨o, _, _, e1, e, .inl rfl, e2, by simpa using e3⟩⟩ hi
    · rw [e, e1] at hb ⊢
      refine ⟨cond (Nat.beq m i) (some (o, 0)) (adv (some (o, 0)) (i * 1)), .known (m - i), fun K => by rw [slcK_known (by omega) (by omega), show i + n - i = n by omega], ?_⟩
      · refine ints_iff.2 ⟨by simp; omega, fun j hj => ?_⟩
        obtain ⟨q, hq, hv⟩ := (ints_iff.1 hb).2 (i + j) (by omega)
        have hq : some (o, 0) = some q := hq
        obtain rfl := Option.some.inj hq
        refine ⟨(o, i), by rw [Go.Abs.beq_false (by omega), cond_false]; simp [slPtr, adv], ?_⟩
        rw [List.getElem?_take, if_pos hj, List.getElem?_drop, ← hv, Nat.zero_add]
/-- What came of the window is put back. -/
theorem rlend_loop {bx m at_ : Nat} {nn out : Int} {v z : SlV} {zs : List Int} {r1 r2 r3 : AVal} (hz : M.ints .u8 z.1 z.2.1 z.2.2 = some zs) (hzf : ∀ p, slPtr z.1 z.2.2 = some p → 0 < z.2.1 → p.1 ∉ fpS v) (hbx : bx ∉ fpS v) (hm : m ∉ fpS v) (hle : at_ + z.2.1 ≤ v.2.1) (hvl : v.2.1 ≤ 4096) (gx : M.get bx = some ⟨[.int .i64 (at_ : Int), .int .i64 nn], .fixed⟩) (gm : M.get m = some ⟨[.sl v.1 v.2.1 v.2.2, r1, r2, r3], .fixed⟩) :
    ∀ (d i : Nat) (M2 : Mem) (B : List Int), i + d = z.2.1 → BkS M2 v B → Mem.But (· ∈ fpS v) M M2 →
      ∃ M', p26_3 C prog.meth bx (some (m, 0)) z.1 z.2.1 z.2.2 out i M2 = some (.tup [.int .u64 out, .int .i64 0], M') ∧ BkS M' v (wrS B (at_ + i) (zs.drop i)) ∧ Mem.But (· ∈ fpS v) M M' := by
  have hzl := ints_length hz
  intro d
  induction d with
  | zero =>
    intro i M2 B hi hB hb
    have hE := p26_3_eq C prog.meth bx (some (m, 0)) z.1 z.2.1 z.2.2 out i M2
    have q : ¬ ((i : Int) < (z.2.1 : Int)) := by omega
    simp only [q, decide_false, cond_false] at hE
    rw [List.drop_eq_nil_of_le (by omega)]
    exact ⟨M2, hE, hB, hb⟩
  | succ d ih =>
    intro i M2 B hi hB hb
    have hE := p26_3_eq C prog.meth bx (some (m, 0)) z.1 z.2.1 z.2.2 out i M2
    have q : ((i : Int) < (z.2.1 : Int)) := by omega
    have c0 : (0 : Int) ≤ (i : Int) := by omega
    have c2 : Nat.blt i z.2.1 = true := Mem.blt_iff.2 (by omega)
    have c3 : Nat.blt (at_ + i) v.2.1 = true := Mem.blt_iff.2 (by omega)
    have hw : IntKind.wrap .i64 ((i : Int) + 1) = ((i + 1 : Nat) : Int) := by rw [wrap_i64 (by omega) (by omega)]; rfl
    have hw2 : IntKind.wrap .i64 ((at_ : Int) + (i : Int)) = ((at_ + i : Nat) : Int) := by rw [wrap_i64 (by omega) (by omega)]; omega
    have c4 : (0 : Int) ≤ ((at_ + i : Nat) : Int) := by omega
    have gx2 := hb.get gx hbx
    have gm2 := hb.get gm hm
    obtain ⟨p, hp, hv⟩ := (ints_iff.1 hz).2 i (by omega)
    rw [List.getElem?_eq_getElem (by omega)] at hv
    have hpl : M2.ldI .u8 p.1 (p.2 + i) = some (zs[i]'(by omega)) := by
      have h1 := ldI_ld.1 hv
      refine ldI_ld.2 ((ld_same (hb.2 _ (ld_lt h1) (hzf p hp (by omega))) _).trans h1)
    obtain ⟨o, M3, s1, s2, s3, s4, s5, s6⟩ := hB.put (i := at_ + i) (y := zs[i]'(by omega)) (by omega)
    simp only [Option.bind_some, List.getElem?_cons_zero, List.getElem?_cons_succ, int?_int, AVal.bool?, AVal.ptr?, AVal.sl?, AVal.tup?, AVal.agg?, AVal.ifc?, AVal.fn?, AVal.str?, List.head?_cons, List.tail_cons, List.isEmpty_nil, cond_true, cond_false, Option.isNone_some, Option.isNone_none, Bool.not_true, Bool.not_false, decide_true, decide_false, beq_self_eq_true, bne_self_eq_false, Int.reduceBEq, Int.reduceBNe, Int.cast_ofNat_Int, q, c0, c2, c3, c4, Int.toNat_natCast, hp, hpl, ldL_at gm2, ldI_at gx2, hw2, s1, Nat.zero_add, Nat.mul_one, s2, hw] at hE
    obtain ⟨M', t1, t2, t3⟩ := ih (i + 1) M3 _ (by omega) s3 (hb.trans (s5.mono (fun y hy => by rw [hy]; exact s6)) (fun y _ h => h))
    refine ⟨M', hE.trans t1, ?_, t3⟩
    rw [List.drop_eq_getElem_cons (show i < zs.length by omega), wrS]
    exact t2
theorem RLend_out {a1 : Option (Nat × Nat)} {l1 : Nat} {c1 : Cap} (H : GS true KR M0 M role hs cur gs ds) (hi : hs[i]? = some h) (hc : cur[i]? = some (some g)) (hd : ds[g]? = some d) {at_ n arg : Int} (hb : -9223372036854775808 ≤ n ∧ n < 9223372036854775808) (hout : ¬ inR at_ n d.B.length) :
    ∃ M', C 26 [.ptr (some (h, 0)), .agg [.int .i64 at_, .int .i64 n], .sl a1 l1 c1, .int .u64 arg] M = some (.tup [.int .u64 0, .int .i64 20], M') ∧ M.Upto M' := by
  have hE := p26_0_eq C prog.meth (some (h, 0)) at_ n a1 l1 c1 arg M
  obtain ⟨M1, e1, g1, u1, n1⟩ := alloc_at M ⟨[.int .i64 at_, .int .i64 n], .fixed⟩
  have H1 := H.ext u1
  obtain ⟨x, d', hx, hd'⟩ := H1.at hc
  rw [hd] at hd'; cases hd'
  obtain ⟨v, _, hp, gh, _⟩ := R_rd H1 hi hc hx hd
  have hsz := hp.sz
  have hE1 := p26_1_eq C prog.meth (some (h, 0)) a1 l1 c1 arg M.n M1
  have hln := R_len H1 hi hc
  simp only [bytesO, hd] at hln
  refine ⟨M1, ?_, u1⟩
  simp only [e1, Option.bind_some, List.getElem?_cons_zero, List.getElem?_cons_succ, int?_int, AVal.bool?, AVal.ptr?, AVal.sl?, AVal.tup?, AVal.agg?, AVal.ifc?, AVal.fn?, AVal.str?, List.head?_cons, List.tail_cons, List.isEmpty_nil, cond_true, cond_false, Option.isNone_some, Option.isNone_none, Bool.not_true, Bool.not_false, decide_true, decide_false, beq_self_eq_true, bne_self_eq_false, Int.reduceBEq, Int.reduceBNe, Int.cast_ofNat_Int, ldP_at gh] at hE
  simp only [Option.bind_some, List.getElem?_cons_zero, List.getElem?_cons_succ, int?_int, AVal.bool?, AVal.ptr?, AVal.sl?, AVal.tup?, AVal.agg?, AVal.ifc?, AVal.fn?, AVal.str?, List.head?_cons, List.tail_cons, List.isEmpty_nil, cond_true, cond_false, Option.isNone_some, Option.isNone_none, Bool.not_true, Bool.not_false, decide_true, decide_false, beq_self_eq_true, bne_self_eq_false, Int.reduceBEq, Int.reduceBNe, Int.cast_ofNat_Int, ldB_at gh, hln, ldI_at g1] at hE1
  by_cases k1 : at_ < 0
  · simp only [k1, decide_true, cond_true] at hE1
    exact c26 (hE.trans hE1)
  · by_cases k2 : n < 0
    · simp only [k1, k2, decide_true, decide_false, cond_true, cond_false] at hE1
      exact c26 (hE.trans hE1)
    · by_cases k3 : at_ > (d.B.length : Int)
      · simp only [k1, k2, k3, decide_true, decide_false, cond_true, cond_false] at hE1
        exact c26 (hE.trans hE1)
      · have hw : IntKind.wrap .i64 ((d.B.length : Int) - at_) = (d.B.length : Int) - at_ := wrap_i64 (by omega) (by omega)
        have k4 : n > (d.B.length : Int) - at_ := by
          unfold inR at hout; omega
        simp only [k1, k2, k3, hw, k4, decide_true, decide_false, cond_true, cond_false] at hE1
        exact c26 (hE.trans hE1)
theorem RLend_in {a1 : Option (Nat × Nat)} {l1 : Nat} {c1 : Cap} {L : List Deed} (H : GS true KR M0 M role hs cur gs ds) (hi : hs[i]? = some h) (hc : cur[i]? = some (some g)) (hd : ds[g]? = some d) {at_ n : Nat} {arg : Int} (hle : at_ + n ≤ d.B.length)
    (hD : Deeds M0 a1 l1 c1 L) (hok : ∀ d ∈ L, DeedOk d) (hl : L.length ≤ 1048576) (hb : ∀ d ∈ L, d.2.2.length ≤ 1048576) :
    ∃ M' role' gs', C 26 [.ptr (some (h, 0)), .agg [.int .i64 (at_ : Int), .int .i64 (n : Int)], .sl a1 l1 c1, .int .u64 arg] M = some (.tup [.int .u64 (L.foldl ScS.deed ⟨(d.B.drop at_).take n, [], false, 0, arg⟩).arg, .int .i64 0], M') ∧
      GS true KR M0 M' role' hs (oC cur ds.length i g) gs' ((oD cur ds g d).set (oG cur ds.length g) ⟨d.B.take at_ ++ ((L.foldl ScS.deed ⟨(d.B.drop at_).take n, [], false, 0, arg⟩).shown ++ d.B.drop (at_ + n)), (oE cur g d).a, (oE cur g d).t, (oE cur g d).mv⟩) ∧ Fj true role role' M M' := by
  have hE := p26_0_eq C prog.meth (some (h, 0)) (at_ : Int) (n : Int) a1 l1 c1 arg M
  obtain ⟨M1, e1, g1, u1, n1⟩ := alloc_at M ⟨[.int .i64 (at_ : Int), .int .i64 (n : Int)], .fixed⟩
  have H1 := H.ext u1
  obtain ⟨x, d', hx, hd'⟩ := H1.at hc
  rw [hd] at hd'; cases hd'
  obtain ⟨v0, _, hp, gh, _⟩ := R_rd H1 hi hc hx hd
  have hsz := hp.sz
  have hE1 := p26_1_eq C prog.meth (some (h, 0)) a1 l1 c1 arg M.n M1
  have hln := R_len H1 hi hc
  simp only [bytesO, hd] at hln
  simp only [e1, Option.bind_some, List.getElem?_cons_zero, List.getElem?_cons_succ, int?_int, AVal.bool?, AVal.ptr?, AVal.sl?, AVal.tup?, AVal.agg?, AVal.ifc?, AVal.fn?, AVal.str?, List.head?_cons, List.tail_cons, List.isEmpty_nil, cond_true, cond_false, Option.isNone_some, Option.isNone_none, Bool.not_true, Bool.not_false, decide_true, decide_false, beq_self_eq_true, bne_self_eq_false, Int.reduceBEq, Int.reduceBNe, Int.cast_ofNat_Int, ldP_at gh] at hE
  have k1 : ¬ ((at_ : Int) < 0) := by omega
  have k2 : ¬ ((n : Int) < 0) := by omega
  have k3 : ¬ ((at_ : Int) > (d.B.length : Int)) := by omega
  have hw : IntKind.wrap .i64 ((d.B.length : Int) - (at_ : Int)) = (d.B.length : Int) - at_ := wrap_i64 (by omega) (by omega)
  have k4 : ¬ ((n : Int) > (d.B.length : Int) - at_) := by omega
  simp only [Option.bind_some, List.getElem?_cons_zero, List.getElem?_cons_succ, int?_int, AVal.bool?, AVal.ptr?, AVal.sl?, AVal.tup?, AVal.agg?, AVal.ifc?, AVal.fn?, AVal.str?, List.head?_cons, List.tail_cons, List.isEmpty_nil, cond_true, cond_false, Option.isNone_some, Option.isNone_none, Bool.not_true, Bool.not_false, decide_true, decide_false, beq_self_eq_true, bne_self_eq_false, Int.reduceBEq, Int.reduceBNe, Int.cast_ofNat_Int, ldB_at gh, hln, ldI_at g1, k1, k2, k3, hw, k4] at hE1
  obtain ⟨M2, role2, gs2, x2, c2, H2, F2, hx2⟩ := R_own H1 hi hc hd
  have hd2 := o_dat (cur := cur) hd
  have hc2 := o_cur (n := ds.length) hc
  obtain ⟨v, ho, hp2, _, _⟩ := R_rd H2 hi hc2 hx2 hd2
  have hB := oE_B cur g d
  rw [hB] at hp2
  have g2 : M2.get M.n = some ⟨[.int .i64 (at_ : Int), .int .i64 (n : Int)], .fixed⟩ := (F2.get M.n (by omega) (by rw [extR_ge (Nat.le_refl _)]; exact nofun)).trans g1
  have hE2 := p26_2_eq C prog.meth (some (h, 0)) a1 l1 c1 arg M.n M1
  have hw2 : IntKind.wrap .i64 ((at_ : Int) + (n : Int)) = ((at_ + n : Nat) : Int) := by rw [wrap_i64 (by omega) (by omega)]; omega
  have hvl := hp2.bs.len
  obtain ⟨a2, c2', s1, s2⟩ := hp2.bs.sub hp2.z (kl := .i64) (kh := .i64) (i := at_) (n := n) (by omega)
  obtain ⟨M3, z, c3, u3, o3, f3⟩ := Deeds_C (arg := arg) (hD.upto H2.up) hok hl hb s2 (by omega)
  simp only [Option.bind_some, List.getElem?_cons_zero, List.getElem?_cons_succ, int?_int, AVal.bool?, AVal.ptr?, AVal.sl?, AVal.tup?, AVal.agg?, AVal.ifc?, AVal.fn?, AVal.str?, List.head?_cons, List.tail_cons, List.isEmpty_nil, cond_true, cond_false, Option.isNone_some, Option.isNone_none, Bool.not_true, Bool.not_false, decide_true, decide_false, beq_self_eq_true, bne_self_eq_false, Int.reduceBEq, Int.reduceBNe, Int.cast_ofNat_Int] at hE2
  rw [c2, Option.bind_some] at hE2
  simp only [Option.bind_some, List.getElem?_cons_zero, List.getElem?_cons_succ, int?_int, AVal.bool?, AVal.ptr?, AVal.sl?, AVal.tup?, AVal.agg?, AVal.ifc?, AVal.fn?, AVal.str?, List.head?_cons, List.tail_cons, List.isEmpty_nil, cond_true, cond_false, Option.isNone_some, Option.isNone_none, Bool.not_true, Bool.not_false, decide_true, decide_false, beq_self_eq_true, bne_self_eq_false, Int.reduceBEq, Int.reduceBNe, Int.cast_ofNat_Int, Nat.zero_add, hp2.ld.1, ldI_at g2, hw2] at hE2
  rw [s1, c3, Option.bind_some] at hE2
  simp only [Option.bind_some, List.getElem?_cons_zero, List.getElem?_cons_succ, int?_int, AVal.bool?, AVal.ptr?, AVal.sl?, AVal.tup?, AVal.agg?, AVal.ifc?, AVal.fn?, AVal.str?, List.head?_cons, List.tail_cons, List.isEmpty_nil, cond_true, cond_false, Option.isNone_some, Option.isNone_none, Bool.not_true, Bool.not_false, decide_true, decide_false, beq_self_eq_true, bne_self_eq_false, Int.reduceBEq, Int.reduceBNe, Int.cast_ofNat_Int] at hE2
  have hxs : ((d.B.drop at_).take n).length = n := by simp; omega
  have hfs := fold_shown L ⟨(d.B.drop at_).take n, [], false, 0, arg⟩ (Nat.zero_le _)
  have hfs' : (L.foldl ScS.deed ⟨(d.B.drop at_).take n, [], false, 0, arg⟩).shown.length = n := by rw [hfs]; exact hxs
  have hzn : z.2.1 = n := by rw [← hfs']; exact o3.1.symm
  have hlt2 := hp2.lt
  have H3 := H2.ext u3
  have hp3 := hp2.upto u3
  have nbx : M.n ∉ fpS v := fun hm => by
    have r2 := (H2.grp _ _ _ hx2 hd2).2.2.2.2.1 M.n (by rw [ho]; exact hm)
    rw [F2.rl M.n (by omega), extR_ge (Nat.le_refl _)] at r2
    cases r2
  obtain ⟨M4, r1, r2, r3⟩ := rlend_loop (bx := M.n) (m := x2.p) (at_ := at_) (nn := (n : Int)) (out := (L.foldl ScS.deed ⟨(d.B.drop at_).take n, [], false, 0, arg⟩).arg) (v := v) (z := z) o3.ints (fun p hp0 h0 => by
    obtain ⟨oz, q1, q2, q3⟩ := o3.2 h0
    rw [q1, q2] at hp0
    have hp0 : some (oz, 0) = some p := hp0
    obtain rfl := Option.some.inj hp0
    have := f3 oz (by rw [fpS_of q1 h0]; simp)
    exact fun hm => by have := hlt2.2 _ hm; omega) nbx hp2.ne (by omega) (by omega) (u3.get g2) hp3.gm z.2.1 0 M3 d.B (by omega) hp3.bs (Mem.But.refl _ _)
  rw [List.drop_zero, Nat.add_zero, wrS_eq _ _ _ (by omega), hfs'] at r2
  have hlen : (d.B.take at_ ++ ((L.foldl ScS.deed ⟨(d.B.drop at_).take n, [], false, 0, arg⟩).shown ++ d.B.drop (at_ + n))).length = d.B.length := by simp; omega
  obtain ⟨role4, H4, F4⟩ := H3.write hx2 hd2 (fp' := x2.fp) (e := ⟨d.B.take at_ ++ ((L.foldl ScS.deed ⟨(d.B.drop at_).take n, [], false, 0, arg⟩).shown ++ d.B.drop (at_ + n)), (oE cur g d).a, (oE cur g d).t, (oE cur g d).mv⟩) (r3.mono (fun y hy => .inr (by rw [ho]; exact hy))) (fun y hy => .inl hy) ⟨v, ho, by rw [r3.2 x2.p hp3.lt.1 hp3.ne]; exact hp3.gm, r2, hp2.ne, hp2.z, by rw [hlen]; exact hp2.sz, hp2.ra⟩
  have eg : gs2.set (oG cur ds.length g) ⟨x2.s, x2.p, x2.fp⟩ = gs2.set (oG cur ds.length g) x2 := rfl
  exact ⟨M4, role4, _, c26 (hE.trans (hE1.trans (hE2.trans r1))), H4, (((Fj.ext true role u1).trans F2).trans (Fj.ext true role2 u3)).trans F4⟩
end
end Go.Proofs.Ytjcakemgghfflaa.M
