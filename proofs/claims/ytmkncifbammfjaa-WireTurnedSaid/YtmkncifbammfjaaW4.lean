import Derived.Test.YtmkncifbammfjaaW3
set_option linter.unusedVariables false
set_option linter.unusedSimpArgs false
set_option linter.unnecessarySimpa false
set_option maxRecDepth 100000
namespace Go.Proofs.Ytmkncifbammfjaa.M
open Go.Abs Go.RowKit
section
variable {M M0 M' : Mem} {ca ta cb tb w : SlV} {code : List Ins} {tabs : List (List Pr)} {ys zs : List Int}
theorem Arg.b (h : Arg M ca ta code tabs) : ca.2.1 < 2 ^ 60 ∧ ta.2.1 < 2 ^ 60 ∧ ∀ T ∈ tabs, T.length < 2 ^ 60 := by
  have h1 := h.lc
  have h2 := h.lt
  unfold reachBytes at h1 h2
  exact ⟨by omega, by omega, fun T hT => by have := h.lp T hT; unfold reachBytes at this; omega⟩
theorem turned {code : List Ins} {tabs : List (List Pr)} (h : Mok code tabs) {k : Nat} (hk : k < (packB code tabs).length) {y : Int} (hy : 0 ≤ y ∧ y < 256) (hne : y ≠ (packB code tabs)[k]) : upE ((packB code tabs).set k y) ≠ 0 := by
  intro hz
  have hpb := pack_byt h.m
  have hqb : Byt ((packB code tabs).set k y) := fun c hc => by
    rcases List.mem_or_eq_of_mem_set hc with h1 | h1
    · exact hpb c h1
    · rw [h1]; exact hy
  obtain ⟨ok, bk⟩ := pack_unp hqb hz
  obtain ⟨B', hB'⟩ : ∃ B', bodyB (unp ((packB code tabs).set k y)).code (unp ((packB code tabs).set k y)).tabs = B' := ⟨_, rfl⟩
  have hBb := body_byt ok.m
  rw [hB'] at hBb
  obtain ⟨B, hB⟩ : ∃ B, bodyB code tabs = B := ⟨_, rfl⟩
  have hBB := body_byt h.m
  rw [hB] at hBB
  have e1 : B' ++ beB 2 (fieldA B') = (B ++ beB 2 (fieldA B)).set k y := by
    have : packB code tabs = B ++ beB 2 (fieldA B) := by unfold packB; rw [hB]
    have e : ∀ c t, packB c t = bodyB c t ++ beB 2 (fieldA (bodyB c t)) := fun _ _ => rfl
    rw [← this, ← bk, e, hB']
  have hlen : (packB code tabs).length = B.length + 2 := by unfold packB; rw [hB, List.length_append, beB_length]
  have hl : B'.length = B.length := by
    have := congrArg List.length e1
    simp only [List.length_append, beB_length, List.length_set] at this
    omega
  have hget : (packB code tabs)[k] = (B ++ beB 2 (fieldA B))[k]'(by rw [List.length_append, beB_length]; omega) := by
    have : packB code tabs = B ++ beB 2 (fieldA B) := by unfold packB; rw [hB]
    simp only [this]
  rw [hget] at hne
  by_cases hkB : k < B.length
  · rw [List.set_append_left _ _ hkB] at e1
    obtain ⟨e2, e3⟩ := List.append_inj e1 (by rw [List.length_set]; exact hl)
    rw [List.getElem_append_left hkB] at hne
    have f1 := numB_be 2 _ (fieldA_lt B')
    have f2 := numB_be 2 _ (fieldA_lt B)
    have hf : fieldA B' = fieldA B := by rw [← f1, ← f2, e3]
    unfold fieldA at hf
    have g1 := fldN_le (wsum 0 B').toNat
    have g2 := fldN_le (wsum 0 B).toNat
    have g3 : fldN (wsum 0 B').toNat = fldN (wsum 0 B).toNat := by omega
    have g4 := fldN_mod (wsum 0 B').toNat
    have g5 := fldN_mod (wsum 0 B).toNat
    have n1 := wsum_nn B' 0 hBb
    have n2 := wsum_nn B 0 hBB
    have hs := wsum_set B 0 k y hkB
    rw [← e2] at hs
    have hx := hBB _ (List.getElem_mem hkB)
    have hm : (wsum 0 B').toNat % 65535 = (wsum 0 B).toNat % 65535 := by rw [← g4, ← g5, g3]
    have hw : wt (0 + k) = 256 ∨ wt (0 + k) = 1 := by unfold wt; split; exact .inl rfl; exact .inr rfl
    rcases hw with hw | hw
    · rw [hw] at hs; omega
    · rw [hw, Int.mul_one] at hs; omega
  · rw [List.set_append_right _ _ (by omega)] at e1
    obtain ⟨e2, e3⟩ := List.append_inj e1 hl
    rw [e2] at e3
    have e4 : (beB 2 (fieldA B))[k - B.length]? = some y := by
      rw [e3, List.getElem?_set_self (by rw [beB_length]; omega)]
    rw [List.getElem_append_right (by omega)] at hne
    rw [List.getElem?_eq_getElem (by rw [beB_length]; omega)] at e4
    exact hne (Option.some.inj e4).symm
theorem xor_ne {x b : Int} (hx : 0 ≤ x ∧ x < 256) (hb : 0 ≤ b ∧ b < 256) (h0 : b ≠ 0) : IntKind.wrap .u8 (((BitVec.ofInt (IntKind.bits .u8) x ^^^ BitVec.ofInt (IntKind.bits .u8) b).toNat : Nat) : Int) ≠ x := by
  obtain ⟨n, rfl⟩ := Int.eq_ofNat_of_zero_le hx.1
  obtain ⟨m, rfl⟩ := Int.eq_ofNat_of_zero_le hb.1
  have e : (BitVec.ofInt (IntKind.bits .u8) (n : Int) ^^^ BitVec.ofInt (IntKind.bits .u8) (m : Int)).toNat = n ^^^ m := by
    rw [BitVec.toNat_xor]
    have e1 : (BitVec.ofInt (IntKind.bits .u8) (n : Int)).toNat = n := by
      show (BitVec.ofInt 8 (n : Int)).toNat = n
      rw [BitVec.ofInt_natCast, BitVec.toNat_ofNat]; omega
    have e2 : (BitVec.ofInt (IntKind.bits .u8) (m : Int)).toNat = m := by
      show (BitVec.ofInt 8 (m : Int)).toNat = m
      rw [BitVec.ofInt_natCast, BitVec.toNat_ofNat]; omega
    rw [e1, e2]
  have hlt : n ^^^ m < 2 ^ 8 := Nat.xor_lt_two_pow (by omega) (by omega)
  rw [e, wu8]
  intro hh
  have h1 : n ^^^ m = n := by omega
  have h2 : n ^^^ (n ^^^ m) = 0 := by rw [h1, Nat.xor_self]
  rw [← Nat.xor_assoc, Nat.xor_self, Nat.zero_xor] at h2
  omega
theorem CopyB {v : SlV} {xs : List Int} (h : Src M v xs) (hl : xs.length ≤ 140737488351232) : ∃ (M1 : Mem) (w : SlV), C 16 [.sl v.1 v.2.1 v.2.2] M = some (.sl w.1 w.2.1 w.2.2, M1) ∧ OwnK .u8 M1 w xs ∧ M.Upto M1 ∧ (∀ o ∈ fpS w, M.n ≤ o ∧ o < M1.n) ∧ (w.2.1 = 0 → w.2.2 = .known 0) := by
  have hxl := h.len
  have cb := CopyBytes_C h.ints (by omega)
  by_cases h0 : v.2.1 = 0
  · rw [if_pos h0] at cb
    have : xs = [] := List.length_eq_zero_iff.1 (by omega)
    subst this
    exact ⟨M, (none, 0, .known 0), cb, OwnK.nil _ _, Mem.Upto.refl _, fun o ho => by rw [fpS_zero rfl] at ho; simp at ho, fun _ => rfl⟩
  · rw [if_neg h0] at cb
    have ho : OwnK .u8 (M.alloc ⟨xs.map (.int .u8), .grow 1⟩) (some (M.n, 0), v.2.1, .unk 0) xs := ⟨hxl, fun _ => ⟨M.n, rfl, rfl, get_alloc_self _ _⟩⟩
    exact ⟨_, (some (M.n, 0), v.2.1, .unk 0), cb, ho, Mem.Upto.alloc _ _, fun o ho' => ⟨by
      rw [fpS_own rfl (by simp only; omega)] at ho'
      simp only [List.mem_singleton] at ho'
      omega, ho.lt o ho'⟩, fun e => absurd e h0⟩
theorem WireTurned_C {at_ by_ : Int} (h : Arg M ca ta code tabs) (hby : 0 ≤ by_ ∧ by_ < 256) : ∃ M', C 6 [mv ca ta, .int .i64 at_, .int .u8 by_] M = some (.bool true, M') := by
  have hE := p6_0_eq C prog.meth ca.1 ca.2.1 ca.2.2 ta.1 ta.2.1 ta.2.2 at_ by_ M
  obtain ⟨M1, e1, u1, n1, l0, l1⟩ := mbox M ca ta
  obtain ⟨Mw, cw, _⟩ := awake_C Mem.empty
  obtain ⟨M2, wp, c2, u2, o2, f2⟩ := Pack_C (h.m.upto u1) h.w
  have c2 : C 9 [.agg [.sl ca.1 ca.2.1 ca.2.2, .sl ta.1 ta.2.1 ta.2.2]] M1 = _ := c2
  simp only [Option.bind_some, List.getElem?_cons_zero, List.getElem?_cons_succ, int?_int, AVal.bool?, AVal.ptr?, AVal.sl?, AVal.tup?, AVal.agg?, AVal.ifc?, AVal.fn?, AVal.str?, List.head?_cons, List.tail_cons, List.isEmpty_nil, cond_true, cond_false, Option.isNone_some, Option.isNone_none, Bool.not_true, Bool.not_false, decide_true, decide_false, beq_self_eq_true, bne_self_eq_false, Int.reduceBEq, Int.reduceBNe, Int.cast_ofNat_Int, e1, cw, l0, l1] at hE
  rw [c2, Option.bind_some] at hE
  by_cases hz : chkM code tabs = 0
  · have q1 : (chkM code tabs != 0) = false := by simp [hz]
    have hk := chkM_zero.1 hz
    have mok : Mok code tabs := ⟨hk, h.w.i, h.w.p⟩
    have eP : packOr code tabs = packB code tabs := by unfold packOr; rw [if_pos hz]
    rw [eP] at o2
    have hpl := pack_len hk
    have hpb := pack_byt hk
    have hwl := o2.1
    have hpos : 2 ≤ (packB code tabs).length := by unfold packB; rw [List.length_append, beB_length]; omega
    obtain ⟨k, hkl, cB⟩ := Bring_C (i := at_) (n := (wp.2.1 : Int)) (M := Mem.empty) (by omega) (by omega)
    obtain ⟨wk, cut, sk, lk, _⟩ := (Src.own o2).to (k2 := .i64) (j := k) (by omega) (by omega)
    obtain ⟨M3, cc, tc, c3, u3, h3⟩ := Unpack_C sk (hpb.take _) (by simp; omega)
    have x1 : upE ((packB code tabs).take k) = 6 := unp_short mok (by omega)
    obtain ⟨M4, M5, e4, s5, u5, n5, _, _⟩ := mbox2 M3 cc tc
    have u25 := u3.trans u5
    obtain ⟨M6, wc, cc6, o6, u6, f6, z6⟩ := CopyB (Src.own (o2.upto u25)) (by omega)
    have hwc := o6.1
    obtain ⟨M7, q7, o7, n7, b7⟩ := o6.push (bytes := 1) by_ z6 (by omega)
    obtain ⟨M8, cd, td, c8, u8, h8⟩ := Unpack_C (Src.own o7) (Byt.app.2 ⟨hpb, fun c hc => by simp only [List.mem_singleton] at hc; subst hc; exact hby⟩) (by simp; omega)
    have y := unp_behind mok (z := [by_]) (by simp)
    have y1 : upE (packB code tabs ++ [by_]) = 200 := by unfold upE; rw [y]
    have y2 : upA (packB code tabs ++ [by_]) = (wp.2.1 : Int) := by
      unfold upA
      rw [y1, if_neg (by decide), y]
      simp only [List.length_append, List.length_singleton]; omega
    rw [x1] at c3
    rw [y1, y2] at c8
    obtain ⟨M9, M10, e9, s10, u10, n10, _, _⟩ := mbox2 M8 cd td
    have q2 : ((wp.2.1 : Int) != (wp.2.1 : Int)) = false := by simp
    simp only [Option.bind_some, List.getElem?_cons_zero, List.getElem?_cons_succ, int?_int, AVal.bool?, AVal.ptr?, AVal.sl?, AVal.tup?, AVal.agg?, AVal.ifc?, AVal.fn?, AVal.str?, List.head?_cons, List.tail_cons, List.isEmpty_nil, cond_true, cond_false, Option.isNone_some, Option.isNone_none, Bool.not_true, Bool.not_false, decide_true, decide_false, beq_self_eq_true, bne_self_eq_false, Int.reduceBEq, Int.reduceBNe, Int.cast_ofNat_Int, q1, cB] at hE
    rw [cut M2 (Mem.Upto.refl _), c3, Option.bind_some] at hE
    simp only [Option.bind_some, List.getElem?_cons_zero, List.getElem?_cons_succ, int?_int, AVal.bool?, AVal.ptr?, AVal.sl?, AVal.tup?, AVal.agg?, AVal.ifc?, AVal.fn?, AVal.str?, List.head?_cons, List.tail_cons, List.isEmpty_nil, cond_true, cond_false, Option.isNone_some, Option.isNone_none, Bool.not_true, Bool.not_false, decide_true, decide_false, beq_self_eq_true, bne_self_eq_false, Int.reduceBEq, Int.reduceBNe, Int.cast_ofNat_Int, e4, s5, cc6] at hE
    rw [q7] at hE
    rw [c8, Option.bind_some] at hE
    simp only [Option.bind_some, List.getElem?_cons_zero, List.getElem?_cons_succ, int?_int, AVal.bool?, AVal.ptr?, AVal.sl?, AVal.tup?, AVal.agg?, AVal.ifc?, AVal.fn?, AVal.str?, List.head?_cons, List.tail_cons, List.isEmpty_nil, cond_true, cond_false, Option.isNone_some, Option.isNone_none, Bool.not_true, Bool.not_false, decide_true, decide_false, beq_self_eq_true, bne_self_eq_false, Int.reduceBEq, Int.reduceBNe, Int.cast_ofNat_Int, e9, s10, q2] at hE
    have hF := p6_1_eq C prog.meth by_ wp.1 wp.2.1 wp.2.2 (k : Int) M10
    by_cases hb0 : by_ = 0
    · have q3 : (by_ == 0) = true := by simp [hb0]
      simp only [Option.bind_some, List.getElem?_cons_zero, List.getElem?_cons_succ, int?_int, AVal.bool?, AVal.ptr?, AVal.sl?, AVal.tup?, AVal.agg?, AVal.ifc?, AVal.fn?, AVal.str?, List.head?_cons, List.tail_cons, List.isEmpty_nil, cond_true, cond_false, Option.isNone_some, Option.isNone_none, Bool.not_true, Bool.not_false, decide_true, decide_false, beq_self_eq_true, bne_self_eq_false, Int.reduceBEq, Int.reduceBNe, Int.cast_ofNat_Int, q3] at hF
      exact ⟨M10, c6 (hE.trans hF)⟩
    · have q3 : (by_ == 0) = false := by simp [hb0]
      have hn6 := u6.1
      have hn25 := u25.1
      have f2' := o2.lt
      have o10 : OwnK .u8 M10 wp (packB code tabs) := o2.same (fun o ho => by
        have := f2' o ho
        rw [u10.2 o (by have := u8.1; omega), u8.2 o (by omega), b7.2 o (by omega) (fun e => by have := f6 o e; omega), u6.2 o (by omega), u25.2 o this])
      obtain ⟨M11, wq, c11, o11, u11, f11, z11⟩ := CopyB (Src.own o10) (by omega)
      have hwq := o11.1
      obtain ⟨o, hp, hv⟩ := o11.get (i := k) (by omega)
      obtain ⟨o', M12, hp', hf', s12, o12, n12, b12⟩ := o11.set (i := k) (by omega) (IntKind.wrap .u8 ((BitVec.ofInt (IntKind.bits .u8) ((packB code tabs)[k]'(by omega)) ^^^ BitVec.ofInt (IntKind.bits .u8) by_).toNat))
      rw [hp] at hp'
      obtain rfl : o = o' := by cases hp'; rfl
      have hx := hpb _ (List.getElem_mem (show k < (packB code tabs).length by omega))
      have hy := xor_byte (y := by_) hx
      have hne := xor_ne hx hby hb0
      have ht := turned mok (k := k) (by omega) hy hne
      have hqb : Byt ((packB code tabs).set k (IntKind.wrap .u8 ((BitVec.ofInt (IntKind.bits .u8) ((packB code tabs)[k]'(by omega)) ^^^ BitVec.ofInt (IntKind.bits .u8) by_).toNat))) := fun c hc => by
        rcases List.mem_or_eq_of_mem_set hc with h1 | h1
        · exact hpb c h1
        · rw [h1]; exact hy
      obtain ⟨M13, ce, te, c13, u13, h13⟩ := Unpack_C (Src.own o12) hqb (by rw [List.length_set]; omega)
      obtain ⟨M14, M15, e14, s15, _⟩ := mbox2 M13 ce te
      have k0 : (0 : Int) ≤ (k : Int) := by omega
      have k1 : Nat.blt k wq.2.1 = true := Mem.blt_iff.2 (by omega)
      have q4 : (upE ((packB code tabs).set k (IntKind.wrap .u8 ((BitVec.ofInt (IntKind.bits .u8) ((packB code tabs)[k]'(by omega)) ^^^ BitVec.ofInt (IntKind.bits .u8) by_).toNat))) != 0) = true := by simp only [bne_iff_ne, ne_eq]; exact ht
      simp only [Option.bind_some, List.getElem?_cons_zero, List.getElem?_cons_succ, int?_int, AVal.bool?, AVal.ptr?, AVal.sl?, AVal.tup?, AVal.agg?, AVal.ifc?, AVal.fn?, AVal.str?, List.head?_cons, List.tail_cons, List.isEmpty_nil, cond_true, cond_false, Option.isNone_some, Option.isNone_none, Bool.not_true, Bool.not_false, decide_true, decide_false, beq_self_eq_true, bne_self_eq_false, Int.reduceBEq, Int.reduceBNe, Int.cast_ofNat_Int, q3, c11, k0, k1, Int.toNat_natCast, hp, Nat.zero_add, Nat.mul_one, hv, s12] at hF
      rw [c13, Option.bind_some] at hF
      simp only [Option.bind_some, List.getElem?_cons_zero, List.getElem?_cons_succ, int?_int, AVal.bool?, AVal.ptr?, AVal.sl?, AVal.tup?, AVal.agg?, AVal.ifc?, AVal.fn?, AVal.str?, List.head?_cons, List.tail_cons, List.isEmpty_nil, cond_true, cond_false, Option.isNone_some, Option.isNone_none, Bool.not_true, Bool.not_false, decide_true, decide_false, beq_self_eq_true, bne_self_eq_false, Int.reduceBEq, Int.reduceBNe, Int.cast_ofNat_Int, e14, s15, q4] at hF
      exact ⟨M15, c6 (hE.trans hF)⟩
  · have q1 : (chkM code tabs != 0) = true := by simp [hz]
    simp only [Option.bind_some, List.getElem?_cons_zero, List.getElem?_cons_succ, int?_int, AVal.bool?, AVal.ptr?, AVal.sl?, AVal.tup?, AVal.agg?, AVal.ifc?, AVal.fn?, AVal.str?, List.head?_cons, List.tail_cons, List.isEmpty_nil, cond_true, cond_false, Option.isNone_some, Option.isNone_none, Bool.not_true, Bool.not_false, decide_true, decide_false, beq_self_eq_true, bne_self_eq_false, Int.reduceBEq, Int.reduceBNe, Int.cast_ofNat_Int, q1] at hE
    exact ⟨M2, c6 hE⟩
end
theorem WireTurned_law : ∀ avs M, M.Whole → okL M.n avs → ShowsArgs M [(true, [.sl 12 [.int .u8, .int .u8, .int .u8, .int .i16, .int .i32], .sl 24 [.sl 16 [.int .u64, .int .u64]]]), (false, [.int .i64]), (false, [.int .u8])] avs → ∃ M', C 6 avs M = some (.bool true, M') := by
  intro avs M hM hok h
  simp only [ShowsArgs, ShowsArg] at h
  obtain ⟨v, _, rfl, ⟨cs, rfl, hv⟩, v2, _, rfl, ⟨t, ht, hv2⟩, v3, _, rfl, ⟨t3, ht3, hv3⟩, rfl⟩ := h
  obtain rfl : t = .int .i64 := by simpa using ht.symm
  obtain rfl : t3 = .int .u8 := by simpa using ht3.symm
  obtain ⟨ca, ta, code, tabs, rfl, ha⟩ := mod_of hv
  obtain ⟨n, rfl, hn⟩ := Shows_b hv2
  obtain ⟨m, rfl, hm⟩ := Shows_b hv3
  exact WireTurned_C ha (u8_bounds hm)
end Go.Proofs.Ytmkncifbammfjaa.M
