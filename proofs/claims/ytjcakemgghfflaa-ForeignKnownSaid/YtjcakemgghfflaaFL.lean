import Derived.Test.YtjcakemgghfflaaFX
set_option linter.unusedVariables false
set_option linter.unusedSimpArgs false
set_option linter.unnecessarySimpa false
set_option maxRecDepth 100000
namespace Go.Proofs.Ytjcakemgghfflaa.M
open Go.Abs
section
variable {M M' : Mem} {a : Option (Nat × Nat)} {l : Nat} {c : Cap} {xs : List Int}
end
def extR (role : Nat → Rj) (n : Nat) : Nat → Rj := fun y => if y < n then role y else .other 0
theorem extR_lt {role : Nat → Rj} {n y : Nat} (h : y < n) : extR role n y = role y := if_pos h
theorem extR_ge {role : Nat → Rj} {n y : Nat} (h : n ≤ y) : extR role n y = .other 0 := if_neg (by omega)
section
variable {b : Bool} {K : Kd} {M0 M M' : Mem} {role role' : Nat → Rj} {hs : List Nat} {cur : List (Option Nat)} {gs : List Gp} {ds : List Dt} {i h g : Nat} {x : Gp} {d : Dt}
theorem GS.ext (H : GS b K M0 M role hs cur gs ds) (hu : M.Upto M') : GS b K M0 M' (extR role M.n) hs cur gs ds := H.frame (H.up.trans hu) (fun y hy _ => hu.2 y hy) (fun y hy => extR_lt hy)
theorem Fj.ext (b : Bool) (role : Nat → Rj) (hu : M.Upto M') : Fj b role (extR role M.n) M M' := ⟨hu.1, fun y hy _ => hu.2 y hy, fun y hy => extR_lt hy⟩
theorem GS.poke (H : GS false KI M0 M role hs cur gs ds) (hx : gs[g]? = some x) (hd : ds[g]? = some d) {o : Nat} (hfp : x.fp = [o]) {B' : List Int} (hup : M0.Upto M') (hn : M.n ≤ M'.n) (hk : ∀ y, y < M.n → (role y).side = some false → y ≠ o → M'.get y = M.get y) (hp : IsP M' x.p o B' d.a d.t d.mv) :
    GS false KI M0 M' (extR role M.n) hs cur gs (ds.set g ⟨B', d.a, d.t, d.mv⟩) := by
  obtain ⟨g1, p1, rs, rp, rf, n1, n2, n3⟩ := H.grp g x d hx hd
  have ro : role o = .mm false g := rf o (by rw [hfp]; simp)
  have hgl : g < ds.length := (List.getElem?_eq_some_iff.1 hd).1
  refine ⟨hup, H.len, fun j h' c hj hcj => ?_, fun g' x' d' hg' hd' => ?_, by simp [H.lend], H.inb, H.few⟩
  · obtain ⟨⟨cs, q1, q2⟩, r, n⟩ := H.hand j h' c hj hcj
    have hl := Mem.get_lt q1
    exact ⟨⟨cs, (hk h' hl (by rw [r]; rfl) (fun e => by rw [e, ro] at r; cases r)).trans q1, q2⟩, (extR_lt hl).trans r, n⟩
  · have old : ∀ y, y < M.n → (role y).side = some false → y ≠ o → M'.get y = M.get y := hk
    by_cases e2 : g' = g
    · subst e2
      rw [hx] at hg'; cases hg'
      rw [List.getElem?_set, if_pos rfl, if_pos hgl] at hd'
      cases hd'
      have hl := Mem.get_lt g1
      exact ⟨(old _ hl (by rw [rs]; rfl) (fun e => by rw [e, ro] at rs; cases rs)).trans g1, ⟨o, hfp, hp⟩, (extR_lt hl).trans rs, (extR_lt (KI.lt p1).1).trans rp, fun y hy => (extR_lt ((KI.lt p1).2 y hy)).trans (rf y hy), n1, n2, n3⟩
    · rw [List.getElem?_set, if_neg (fun h => e2 h.symm)] at hd'
      obtain ⟨q1, q0, r1, r2, r3, r⟩ := H.grp g' x' d' hg' hd'
      have hl := KI.lt q0
      refine ⟨(old _ (Mem.get_lt q1) (by rw [r1]; rfl) (fun e => by rw [e, ro] at r1; cases r1)).trans q1, KI.same q0 (old _ hl.1 (by rw [r2]; rfl) (fun e => by rw [e, ro] at r2; cases r2)) (fun y hy => old _ (hl.2 y hy) (by rw [r3 y hy]; rfl) (fun e => ?_)), (extR_lt (Mem.get_lt q1)).trans r1, (extR_lt hl.1).trans r2, fun y hy => (extR_lt (hl.2 y hy)).trans (r3 y hy), r⟩
      have q := r3 y hy
      rw [e, ro] at q; cases q; exact e2 rfl
theorem ask01 (len : Nat) : askE len 0 1 = 0 ∨ askE len 0 1 = 20 := by
  unfold askE
  rw [if_neg (by decide), if_neg (by decide), if_neg (by decide)]
  split
  · exact .inr rfl
  · exact .inl rfl
def inR (at_ n : Int) (len : Nat) : Prop := 0 ≤ at_ ∧ 0 ≤ n ∧ at_ ≤ len ∧ n ≤ len - at_
theorem lend_ask (H : GS false KI M0 M role hs cur gs ds) (hi : hs[i]? = some h) (hc : cur[i]? = some (some g)) (hd : ds[g]? = some d) {t : Nat} {v : AVal} {at_ n arg : Int} (hb : -9223372036854775808 ≤ n ∧ n < 9223372036854775808) :
    ∃ M1, C 12 [.ptr (some (h, 0)), .agg [.int .i64 at_, .int .i64 n], .ifc (some t) v, .int .u64 arg] M = C 12 [.ptr (some (h, 0)), .agg [.int .i64 at_, .int .i64 n], .ifc (some t) v, .int .u64 arg] M ∧ M1.get M.n = some ⟨[.int .i64 at_, .int .i64 n], .fixed⟩ ∧ M.Upto M1 ∧ M1.n = M.n + 1 ∧
      (inR at_ n d.B.length → p12_0 C prog.meth (some (h, 0)) at_ n (some t) v arg M = p12_2 C prog.meth (some (h, 0)) (some t) v arg M.n M1) ∧
      (¬ inR at_ n d.B.length → p12_0 C prog.meth (some (h, 0)) at_ n (some t) v arg M = some (.tup [.int .u64 0, .int .i64 20], M1)) := by
  have hE := p12_0_eq C prog.meth (some (h, 0)) at_ n (some t) v arg M
  obtain ⟨M1, e1, g1, u1, n1⟩ := alloc_at M ⟨[.int .i64 at_, .int .i64 n], .fixed⟩
  have H1 := H.ext u1
  obtain ⟨x, d', hx, hd'⟩ := H.at hc
  rw [hd] at hd'; cases hd'
  obtain ⟨_, _, hp, _⟩ := I_rd H hi hc hx hd
  have hsz := hp.sz
  have hE1 := p12_1_eq C prog.meth (some (h, 0)) (some t) v arg M.n M1
  have hln := I_len H1 hi hc
  simp only [bytesO, hd] at hln
  have s0 := still1 (M := M1) (o := M.n) (i := 0) (v := .int .i64 at_) (by rw [ld_fix g1]; rfl)
  have s1 := still1 (M := M1) (o := M.n) (i := 1) (v := .int .i64 n) (by rw [ld_fix g1]; rfl)
  have hE' : p12_0 C prog.meth (some (h, 0)) at_ n (some t) v arg M = p12_1 C prog.meth (some (h, 0)) (some t) v arg M.n M1 := by
    rcases I_load H1 hi hc hd 0 1 with ⟨e, q⟩ | ⟨e, q⟩
    · have : askE d.B.length 0 1 = 20 := by rcases ask01 d.B.length with h | h; exact absurd h e; exact h
      rw [this] at q
      simp only [e1, int?_int, rvs, Int.reduceBEq, Int.reduceBNe, Int.cast_ofNat_Int] at hE
      rw [q, Option.bind_some] at hE
      simp only [int?_int, rvs, Int.reduceBEq, Int.reduceBNe, Int.cast_ofNat_Int] at hE
      exact hE
    · simp only [e1, int?_int, rvs, Int.reduceBEq, Int.reduceBNe, Int.cast_ofNat_Int] at hE
      rw [q, Option.bind_some] at hE
      simp only [int?_int, rvs, Int.reduceBEq, Int.reduceBNe, Int.cast_ofNat_Int] at hE
      exact hE
  refine ⟨M1, rfl, g1, u1, n1, fun hin => ?_, fun hin => ?_⟩
  · obtain ⟨i1, i2, i3, i4⟩ := hin
    have k1 : ¬ (at_ < 0) := by omega
    have k2 : ¬ (n < 0) := by omega
    have k3 : ¬ (at_ > (d.B.length : Int)) := by omega
    have hw : IntKind.wrap .i64 ((d.B.length : Int) - at_) = (d.B.length : Int) - at_ := wrap_i64 (by omega) (by omega)
    have k4 : ¬ (n > (d.B.length : Int) - at_) := by omega
    simp only [ldI_at g1, int?_int, rvs, Int.reduceBEq, Int.reduceBNe, Int.cast_ofNat_Int, k1, k2, hln, k3, hw, k4, s0, s1] at hE1
    exact hE'.trans hE1
  · by_cases k1 : at_ < 0
    · simp only [ldI_at g1, int?_int, rvs, Int.reduceBEq, Int.reduceBNe, Int.cast_ofNat_Int, k1] at hE1
      exact hE'.trans hE1
    · by_cases k2 : n < 0
      · simp only [ldI_at g1, int?_int, rvs, Int.reduceBEq, Int.reduceBNe, Int.cast_ofNat_Int, k1, k2] at hE1
        exact hE'.trans hE1
      · by_cases k3 : at_ > (d.B.length : Int)
        · simp only [ldI_at g1, int?_int, rvs, Int.reduceBEq, Int.reduceBNe, Int.cast_ofNat_Int, k1, k2, hln, k3, s0, s1] at hE1
          exact hE'.trans hE1
        · have hw : IntKind.wrap .i64 ((d.B.length : Int) - at_) = (d.B.length : Int) - at_ := wrap_i64 (by omega) (by omega)
          have k4 : n > (d.B.length : Int) - at_ := by
            unfold inR at hin; omega
          simp only [ldI_at g1, int?_int, rvs, Int.reduceBEq, Int.reduceBNe, Int.cast_ofNat_Int, k1, k2, hln, k3, hw, k4, s0, s1] at hE1
          exact hE'.trans hE1
theorem Lend_out (H : GS false KI M0 M role hs cur gs ds) (hi : hs[i]? = some h) (hc : cur[i]? = some (some g)) (hd : ds[g]? = some d) {t : Nat} {v : AVal} {at_ n arg : Int} (hb : -9223372036854775808 ≤ n ∧ n < 9223372036854775808) (hout : ¬ inR at_ n d.B.length) :
    ∃ M', C 12 [.ptr (some (h, 0)), .agg [.int .i64 at_, .int .i64 n], .ifc (some t) v, .int .u64 arg] M = some (.tup [.int .u64 0, .int .i64 20], M') ∧ M.Upto M' := by
  obtain ⟨M1, _, _, u1, _, _, k⟩ := lend_ask H hi hc hd (t := t) (v := v) (at_ := at_) (arg := arg) hb
  exact ⟨M1, c12 (k hout), u1⟩
theorem window_C {a : Option (Nat × Nat)} {l at_ n : Nat} (hle : at_ + n ≤ l) (hl : l ≤ 4096) : ∃ M', C 35 [.sl a l (.known l), .agg [.int .i64 (at_ : Int), .int .i64 (n : Int)]] M = some (.tup [.sl (cond (Nat.beq (at_ + n) at_) a (adv a (at_ * 1))) n (.known n), .int .i64 0], M') ∧ M.Upto M' := by
  have hE := p35_0_eq C prog.meth a l (.known l) (at_ : Int) (n : Int) M
  obtain ⟨M1, e1, g1, u1, n1⟩ := alloc_at M ⟨[.int .i64 (at_ : Int), .int .i64 (n : Int)], .fixed⟩
  have hE1 := p35_1_eq C prog.meth a l (.known l) M.n M1
  have k1 : ¬ ((at_ : Int) < 0) := by omega
  have k2 : ¬ ((n : Int) < 0) := by omega
  have k3 : ¬ ((at_ : Int) > (l : Int)) := by omega
  have hw : IntKind.wrap .i64 ((l : Int) - (at_ : Int)) = (l : Int) - at_ := wrap_i64 (by omega) (by omega)
  have hw2 : IntKind.wrap .i64 ((at_ : Int) + (n : Int)) = ((at_ + n : Nat) : Int) := by rw [wrap_i64 (by omega) (by omega)]; omega
  have k4 : ¬ ((n : Int) > (l : Int) - at_) := by omega
  have hr : M1.room 1 a (.known l) (at_ + n) = true := by unfold Mem.room; exact ble_iff.2 hle
  simp only [e1, ldI_at g1, int?_int, rvs, Int.reduceBEq, Int.reduceBNe, Int.cast_ofNat_Int, k1, k2, k3, hw, k4] at hE
  simp only [ldI_at g1, int?_int, rvs, Int.reduceBEq, Int.reduceBNe, Int.cast_ofNat_Int, hw2] at hE1
  rw [slcK_3 hr (by omega) (Nat.le_refl _), show at_ + n - at_ = n by omega] at hE1
  exact ⟨M1, c35 (hE.trans hE1), u1⟩
theorem Lend_in (H : GS false KI M0 M role hs cur gs ds) (hi : hs[i]? = some h) (hc : cur[i]? = some (some g)) (hd : ds[g]? = some d) {t f : Nat} {v : AVal} {at_ n : Nat} {arg : Int} (hle : at_ + n ≤ d.B.length) (hm : prog.meth t "Run" = some f) :
    ∃ M3 role3 gs3 x3 o a P Q, GS false KI M0 M3 role3 hs (oC cur ds.length i g) gs3 (oD cur ds g d) ∧ Fj false role role3 M M3 ∧ gs3[oG cur ds.length g]? = some x3 ∧ x3.fp = [o] ∧ (0 < n → a = some (o, List.length P)) ∧ M3.get o = some ⟨(P ++ ((d.B.drop at_).take n ++ Q)).map (.int .u8), .fixed⟩ ∧
      (∀ rv M4, C f (v :: [.sl a n (.known n), .int .u64 arg]) M3 = some (.int .u64 rv, M4) → C 12 [.ptr (some (h, 0)), .agg [.int .i64 (at_ : Int), .int .i64 (n : Int)], .ifc (some t) v, .int .u64 arg] M = some (.tup [.int .u64 rv, .int .i64 0], M4)) ∧
      (∀ M4 ys, ys.length = n → M0.Upto M4 → M3.n ≤ M4.n → (∀ y, y < M3.n → (role3 y).side = some false → y ≠ o → M4.get y = M3.get y) → M4.get o = some ⟨(P ++ (ys ++ Q)).map (.int .u8), .fixed⟩ →
        GS false KI M0 M4 (extR role3 M3.n) hs (oC cur ds.length i g) gs3 ((oD cur ds g d).set (oG cur ds.length g) ⟨d.B.take at_ ++ (ys ++ d.B.drop (at_ + n)), (oE cur g d).a, (oE cur g d).t, (oE cur g d).mv⟩)) := by
  obtain ⟨x0, d0, hx0, hd0⟩ := H.at hc
  rw [hd] at hd0; cases hd0
  obtain ⟨_, _, hp0, _⟩ := I_rd H hi hc hx0 hd
  have hsz := hp0.sz
  obtain ⟨M1, _, g1, u1, n1, kin, _⟩ := lend_ask H hi hc hd (t := t) (v := v) (at_ := (at_ : Int)) (n := (n : Int)) (arg := arg) (by omega)
  have hE := kin ⟨by omega, by omega, by omega, by omega⟩
  have H1 := H.ext u1
  obtain ⟨M2, role2, gs2, x2, c2, H2, F2, hx2⟩ := I_own H1 hi hc hd
  have hd2 := o_dat (cur := cur) hd
  have hc2 := o_cur (n := ds.length) hc
  obtain ⟨o, ho, hp, _, _, _⟩ := I_rd H2 hi hc2 hx2 hd2
  have hB := oE_B cur g d
  obtain ⟨j, c3, hj, _⟩ := PData_C hp
  rw [hB] at c3 hj
  have g2 : M2.get M.n = some ⟨[.int .i64 (at_ : Int), .int .i64 (n : Int)], .fixed⟩ := (F2.get M.n (by omega) (by rw [extR_ge (Nat.le_refl _)]; exact nofun)).trans g1
  have s2 := still2 (M := M2) (o := M.n) (i := 0) (v := .int .i64 (at_ : Int)) (w := .int .i64 (n : Int)) (by rw [ld_fix g2]; rfl) (by rw [ld_fix g2]; rfl)
  obtain ⟨M3, c4, u3⟩ := window_C (M := M2) (a := some (o, j)) (l := d.B.length) hle (by omega)
  have hE2 := p12_2_eq C prog.meth (some (h, 0)) (some t) v arg M.n M1
  simp only [int?_int, rvs, Int.reduceBEq, Int.reduceBNe, Int.cast_ofNat_Int] at hE2
  rw [c2, Option.bind_some] at hE2
  simp only [int?_int, rvs, Int.reduceBEq, Int.reduceBNe, Int.cast_ofNat_Int] at hE2
  rw [c3, Option.bind_some] at hE2
  simp only [int?_int, rvs, Int.reduceBEq, Int.reduceBNe, Int.cast_ofNat_Int, ldI_at g2] at hE2
  rw [c4, Option.bind_some] at hE2
  simp only [int?_int, rvs, Int.reduceBEq, Int.reduceBNe, Int.cast_ofNat_Int, s2, hm] at hE2
  have H3 := H2.ext u3
  have hp3 := hp.upto u3
  obtain ⟨P, Q, go, hP, hQ⟩ := hp3.go
  rw [hB] at go
  have eB : d.B = d.B.take at_ ++ ((d.B.drop at_).take n ++ d.B.drop (at_ + n)) := by
    rw [← List.drop_drop, List.take_append_drop, List.take_append_drop]
  have F3 : Fj false role (extR role2 M2.n) M M3 := ((Fj.ext false role u1).trans F2).trans (Fj.ext false role2 u3)
  refine ⟨M3, extR role2 M2.n, gs2, x2, o, cond (Nat.beq (at_ + n) at_) (some (o, j)) (adv (some (o, j)) (at_ * 1)), P ++ d.B.take at_, d.B.drop (at_ + n) ++ Q, H3, F3, hx2, ho, fun h0 => ?_, ?_, fun rv M4 hr => ?_, fun M4 ys hy hup hn hk hg => ?_⟩
  · rw [Go.Abs.beq_false (by omega), cond_false]
    have := hj (by omega)
    simp [adv, this, hP, Nat.min_eq_left (show at_ ≤ d.B.length by omega)]
  · rw [go]
    congr 3
    conv => lhs; rw [eB]
    simp only [List.append_assoc]
  · rw [hr, Option.bind_some] at hE2
    simp only [int?_int, rvs, Int.reduceBEq, Int.reduceBNe, Int.cast_ofNat_Int] at hE2
    exact c12 (hE.trans hE2)
  · have hnp := hp.ne
    have hl := hp3.lt
    have rp : (extR role2 M2.n x2.p).side = some false := by
      have := (H3.grp _ _ _ hx2 hd2).2.2.2.1
      rw [this]; rfl
    have hlen : (d.B.take at_ ++ (ys ++ d.B.drop (at_ + n))).length = d.B.length := by simp; omega
    have gp := hp3.gp
    rw [hB] at gp
    have ha := hp3.all
    have hs := hp3.sz
    rw [hB] at ha hs
    refine H3.poke hx2 hd2 ho hup hn hk ⟨?_, ⟨P, Q, ?_, hP, hQ⟩, hnp, by rw [hlen]; exact hs, by rw [hlen]; exact ha⟩
    · rw [hlen, hk x2.p hl.1 rp hnp]; exact gp
    · rw [hg]; simp only [List.append_assoc]
theorem Lend_script {a1 : Option (Nat × Nat)} {l1 : Nat} {c1 : Cap} {L : List Deed} {rows : List RwD} {N0 N1 : Nat} (H : GS false KI M0 M role hs cur gs ds) (hi : hs[i]? = some h) (hc : cur[i]? = some (some g)) (hd : ds[g]? = some d) {at_ n : Nat} {arg : Int} (hle : at_ + n ≤ d.B.length)
    (hO : OD N0 N1 M a1 l1 c1 rows L) (hro : ∀ y, N0 ≤ y → y < N1 → role y = .other 0) (hok : ∀ d ∈ L, DeedOk d) (hl : L.length ≤ 1048576) (hb : ∀ d ∈ L, d.2.2.length ≤ 1048576) :
    ∃ M' role' gs', C 12 [.ptr (some (h, 0)), .agg [.int .i64 (at_ : Int), .int .i64 (n : Int)], .ifc (some 88) (.agg [.sl a1 l1 c1]), .int .u64 arg] M = some (.tup [.int .u64 (L.foldl ScS.deed ⟨(d.B.drop at_).take n, [], false, 0, arg⟩).arg, .int .i64 0], M') ∧
      GS false KI M0 M' role' hs (oC cur ds.length i g) gs' ((oD cur ds g d).set (oG cur ds.length g) ⟨d.B.take at_ ++ ((L.foldl ScS.deed ⟨(d.B.drop at_).take n, [], false, 0, arg⟩).shown ++ d.B.drop (at_ + n)), (oE cur g d).a, (oE cur g d).t, (oE cur g d).mv⟩) ∧ Fj false role role' M M' := by
  obtain ⟨x0, d0, hx0, hd0⟩ := H.at hc
  rw [hd] at hd0; cases hd0
  obtain ⟨_, _, hp0, _⟩ := I_rd H hi hc hx0 hd
  have hsz := hp0.sz
  obtain ⟨M3, role3, gs3, x3, o, a, P, Q, H3, F3, hx3, ho, ha, hg, hcall, hpost⟩ := Lend_in H hi hc hd (t := 88) (f := 41) (v := .agg [.sl a1 l1 c1]) (at_ := at_) (n := n) (arg := arg) hle rfl
  obtain ⟨d3, hd3⟩ := H3.dat hx3
  obtain ⟨_, p3, _, _, rf, _, _, n3⟩ := H3.grp _ _ _ hx3 hd3
  have ro := rf o (by rw [ho]; simp)
  have no := n3 o (by rw [ho]; simp)
  have htop := hO.top
  have hol := Mem.get_lt hg
  have hO3 : OD N0 N1 M3 a1 l1 c1 rows L := hO.keep F3.n (fun y h0 h1 => F3.get y (by omega) (by rw [hro y h0 h1]; exact nofun))
  have hon : o < N0 ∨ N1 ≤ o := by
    by_cases h0 : N0 ≤ o ∧ o < N1
    · have := F3.rl o (by omega)
      rw [ro, hro o h0.1 h0.2] at this
      cases this
    · omega
  have hxs : ((d.B.drop at_).take n).length = n := by simp; omega
  have hfs := fold_shown L ⟨(d.B.drop at_).take n, [], false, 0, arg⟩ (Nat.zero_le _)
  have hfs' : (L.foldl ScS.deed ⟨(d.B.drop at_).take n, [], false, 0, arg⟩).shown.length = n := by rw [hfs]; exact hxs
  have fin : ∀ (q : Nat) (M4 : Mem), Mem.But (· = q) M3 M4 → (q = o ∨ M3.n ≤ q) → M4.get o = some ⟨(P ++ ((L.foldl ScS.deed ⟨(d.B.drop at_).take n, [], false, 0, arg⟩).shown ++ Q)).map (.int .u8), .fixed⟩ →
      C 41 [.agg [.sl a1 l1 c1], .sl a n (.known n), .int .u64 arg] M3 = some (.int .u64 (L.foldl ScS.deed ⟨(d.B.drop at_).take n, [], false, 0, arg⟩).arg, M4) → ∃ M' role' gs', C 12 [.ptr (some (h, 0)), .agg [.int .i64 (at_ : Int), .int .i64 (n : Int)], .ifc (some 88) (.agg [.sl a1 l1 c1]), .int .u64 arg] M = some (.tup [.int .u64 (L.foldl ScS.deed ⟨(d.B.drop at_).take n, [], false, 0, arg⟩).arg, .int .i64 0], M') ∧
            GS false KI M0 M' role' hs (oC cur ds.length i g) gs' ((oD cur ds g d).set (oG cur ds.length g) ⟨d.B.take at_ ++ ((L.foldl ScS.deed ⟨(d.B.drop at_).take n, [], false, 0, arg⟩).shown ++ d.B.drop (at_ + n)), (oE cur g d).a, (oE cur g d).t, (oE cur g d).mv⟩) ∧ Fj false role role' M M' := fun q M4 hb4 hq hg4 hr => by
    have hup : M0.Upto M4 := ⟨by have := H3.up.1; have := hb4.1; omega, fun y hy => by rw [hb4.2 y (by have := H3.up.1; omega) (by have := H3.up.1; omega), H3.up.2 y hy]⟩
    have H4 := hpost M4 _ hfs' hup hb4.1 (fun y hy _ hne => hb4.2 y hy (by omega)) hg4
    exact ⟨M4, _, _, hcall _ M4 hr, H4, F3.trans ⟨hb4.1, fun y hy hs => hb4.2 y hy (by
      rintro rfl
      rcases hq with rfl | hq
      · rw [ro] at hs; exact hs rfl
      · omega), fun y hy => extR_lt hy⟩⟩
  by_cases h0 : 0 < n
  · obtain ⟨M4, r1, r2, r3⟩ := Run_C (M := M3) (o := o) (P := P) (Q := Q) (ks := .fixed) (a := a) (n := n) (xs := (d.B.drop at_).take n) (arg := arg) (hO3.deeds hon) hok hl hb hxs (by omega) rfl (fun h0 => ⟨ha h0, hg⟩)
    exact fin o M4 r2 (.inl rfl) (r3 h0) r1
  · obtain ⟨M4, r1, r2, _⟩ := Run_C (M := M3) (o := M3.n) (P := P) (Q := Q) (ks := .fixed) (a := a) (n := n) (xs := (d.B.drop at_).take n) (arg := arg) (hO3.deeds (.inr hO3.top)) hok hl hb hxs (by omega) rfl (fun h => absurd h h0)
    refine fin M3.n M4 r2 (.inr (Nat.le_refl _)) ?_ r1
    rw [r2.2 o hol (by omega), hg]
    have e1 : (L.foldl ScS.deed ⟨(d.B.drop at_).take n, [], false, 0, arg⟩).shown = [] := List.length_eq_zero_iff.1 (by omega)
    have e2 : (d.B.drop at_).take n = [] := List.length_eq_zero_iff.1 (by omega)
    rw [e1, e2]
end
end Go.Proofs.Ytjcakemgghfflaa.M
